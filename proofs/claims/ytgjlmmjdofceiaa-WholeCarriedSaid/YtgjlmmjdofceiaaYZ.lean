/-
  Package whole: All.
  The reference's Copy of a transaction, its inputs in a row that may be written.
  The reference's Copy of a block, its transactions in rows that may be written.
  The plain law of WholeCarried.
  WholeCarried: its region 9, in whatever order.
  WholeCarried: a transaction is turned in its place.
  WholeCarried: its inner loop.
  WholeCarried: its outer loop.
  WholeCarried: its region 21 and what stands by.
  WholeCarried: what it answers.
  WholeCarried.
-/
import Derived.Test.YtgjlmmjdofceiaaYX

set_option linter.unusedSimpArgs false
set_option linter.unusedVariables false
namespace Go.Av
open Go.RowKit Go.Proofs
theorem ty71 : tyT Try.prog 71 = some (false, 1) := by kernel_rfl
theorem sl71 : sliT Try.prog 71 = some 1 := by kernel_rfl

def allF : List (Nat × Nat × Bool) → List Nat
  | [] => []
  | f :: r => if f.2.2 then (if f.1 = 240 then [f.1] else f.1 :: allF r) else allF r
def allR (rt : List Nat) (l : List TTx) : List Nat := allF (fl rt l)

theorem ds71 : dstT Try.prog 71 = some 1 := by kernel_rfl
theorem by71 : bT Try.prog 71 = 8 := by kernel_rfl
theorem bs71 {S : Nat → Spec} {Y : aC} {H : Hp} {t : T} {Q : V → Hp → Prop} {x : Operand} {e : Nat} (hx : evT t x = vN .i64 e) (h : Q (.sl 1 (nE .i64 [e]) true) H) : wpOp Try.prog S Y false H (evT t) (.buildSlice 71 1 #[(0, x)]) Q := by
  refine ⟨1, [[vN .i64 0]], nE .i64 [e], by kernel_rfl, by omega, ?_, h⟩
  simp only [List.map_cons, List.map_nil, bv, hx]
  rfl

def F33 (Y : aC) (t : T) (l : Nat) (ob : LoopState → Option Code → Obj) : Spec0 := fun args H' QY => args.length = 2 ∧ H' l = some (.raw (ob .ready none)) ∧
  wpC Try.prog SF Y [1] 21 (asgOf (aU Try.f33 0)) false (onlyA fun t₁ H₁ => H₁ l = some (.raw (ob .ready none)) ∧
    wpC Try.prog SF Y [1] 21 (rbodyOf (aU Try.f33 0)) false (bL l ob QY) t₁ (upd H₁ l (some (.raw (ob .busy none))))) (putsT 21 t [9, 10] args) H'

theorem flt33 {Y Y' : aC} {t : T} {l r : Nat} {cs : List V} {ob : LoopState → Option Code → Obj} {G : Hp} {Qe : Hp → Prop} (q3 : t 3 = .ptr r 0) (gr : G r = none) (gl : G l = none) (hrl : r ≠ l) :
    ∀ (fs : List (Nat × Nat × Bool)) (done : List Nat) (w : V) (X : Hp), done.length + fs.length ≤ 100 → (∀ f ∈ fs, ∀ X Q, hle G X → Q (.bool f.2.2) X → SF f.2.1 Y [.agg cs] X Q) → X r = some (.row [w]) → X l = some (.raw (ob .ready none)) → hle G X → okO G X w 1 (nE .i64 done) →
      (∀ X' w', hle G X' → X' r = some (.row [w']) → okO G X' w' 1 (nE .i64 (done ++ allF fs)) → (X' l = some (.raw (ob .ready none)) ∨ X' l = some (.raw (ob .done (some (.exit 0))))) → Qe X') → fltS (upd Y' l (F33 Y t l ob)) l Qe (fs.map fun f => (f.1, fnL cs f.2.1)) X
  | [], done, w, X, _, _, xr, xl, hG, hok, hQ => hQ X w hG xr (by rw [allF, List.append_nil]; exact hok) (.inl xl)
  | f :: fs, done, w, X, hlen, hfs, xr, xl, hG, hok, hQ => by
    refine ⟨fun b X' => ∃ w', X' r = some (.row [w']) ∧ hle G X' ∧ okO G X' w' 1 (nE .i64 (if f.2.2 then done ++ [f.1] else done)) ∧
      (f.2.2 = true ∧ f.1 = 240 → b = .bool false ∧ X' l = some (.raw (ob .done (some (.exit 0))))) ∧ (¬(f.2.2 = true ∧ f.1 = 240) → b = .bool true ∧ X' l = some (.raw (ob .ready none))), ?_, ?_⟩
    · rw [ag]
      refine ⟨rfl, xl, ?_⟩
      show wpC Try.prog SF Y [1] 21 (.seq (regAt Try.f33 3) (regAt Try.f33 4)) false (onlyA _) (putT 21 (putT 21 t (some 9) (vN .i64 f.1)) (some 10) (fnL cs f.2.1)) X
      refine bZ fun K hS => ?_
      refine ac rfl ?_
      repeat (first
    | (refine aa rfl fun K hK => ?_; simp (disch := omega) only [WW, BB, ↓ab, simprocAttr]; refine hK _ _ ?_; clear hK) | (refine ae ?_; simp only [TH]; (((repeat ((fail_if_success refine hS _ _ ?_); clear hS)); refine hS _ _ ?_); clear hS; try clear hF)) | refine ac rfl ?_)
      refine ae ?_
      simp only [onlyA]
      refine ⟨xl, ?_⟩
      have yr : upd X l (some (.raw (ob .busy none))) r = some (.row [w]) := by rw [ah _ _ _ hrl]; exact xr
      have yl : upd X l (some (.raw (ob .busy none))) l = some (.raw (ob .busy none)) := ag _ _ _
      have yG : hle G (upd X l (some (.raw (ob .busy none)))) := ai hG gl
      have yok : okO G (upd X l (some (.raw (ob .busy none)))) w 1 (nE .i64 done) := bj hok (fun es' h => by rw [xl] at h; cases h)
      generalize upd X l (some (.raw (ob .busy none))) = X1 at *
      refine ax ?_
      repeat (first
    | (refine aa rfl fun K hK => ?_; simp (disch := omega) only [WW, BB, ↓ab, simprocAttr, fnL]; refine hK _ _ ?_; clear hK) | refine af fun K hS hF => ?_ | refine ac rfl ?_)
      refine aa rfl fun K hK => ?_
      simp only [WW, BB, fnL, ↓ab, ↓reduceIte, Nat.reduceEqDiff]
      refine hfs f (by simp) _ _ yG (hK _ _ ?_)
      clear hK
      cases hf : f.2.2 with
      | false =>
        repeat (first
    | (refine aa rfl fun K hK => ?_; simp (disch := omega) only [WW, BB, ↓ab, simprocAttr]; refine hK _ _ ?_; clear hK) | (refine ae ?_; simp only [TH]; (((repeat ((fail_if_success refine hS _ _ ?_); clear hS)); refine hS _ _ ?_); clear hS; try clear hF)))
        refine aS rfl ?_
        refine aG ?_
        simp only [TH, ↓reduceIte, bL]
        refine ⟨⟨_, _, yl⟩, w, by rw [ah _ _ _ hrl]; exact yr, ai yG gl, ?_, fun h => (by rw [hf] at h; cases h.1), fun _ => ⟨trivial, ag _ _ _⟩⟩
        rw [hf, if_neg (by simp)]
        exact bj yok (fun es' h => by rw [yl] at h; cases h)
      | true =>
        repeat (first
    | (refine aa rfl fun K hK => ?_; simp (disch := omega) only [WW, BB, ↓ab, simprocAttr]; refine hK _ _ ?_; clear hK) | (refine ae ?_; simp only [TH]; (((repeat ((fail_if_success refine hS _ _ ?_); clear hS)); refine hS _ _ ?_); clear hS; try clear hF)))
        refine aE rfl ?_
        repeat (first
    | (refine aa rfl fun K hK => ?_; simp (disch := omega) only [WW, BB, ↓ab, simprocAttr, q3, aw (off := 0) yr ty71 rfl]; refine hK _ _ ?_; clear hK) | (refine am ?_; simp only [TH]; (((repeat ((fail_if_success refine hS _ _ ?_); clear hS)); refine hS _ _ ?_); clear hS; try clear hF)) | refine af fun K hS hF => ?_ | refine ac rfl ?_)
        refine aa rfl fun K hK => bs71 (e := f.1) (by simp (disch := omega) only [WW, BB, ↓ab, simprocAttr]) (hK _ _ ?_)
        refine aa rfl fun K hK => ?_
        simp (disch := omega) only [WW, BB, ↓ab, simprocAttr]
        have hnl : (nE .i64 done).length ≤ 100 := by rw [az]; simp at hlen; omega
        refine cg (fs := nE .i64 [f.1]) yok yG ds71 sl71 bg (nE_ones _ _) (by simp [nE]) (by rw [by71]; simp [az] at hnl ⊢; omega) (by simp [az] at hnl ⊢; omega) fun w' X2 hok2 hG2 hk2 => hK _ _ ?_
        have zr := hk2 _ _ yr (fun _ h => by cases h)
        have zl := hk2 _ _ yl (fun _ h => by cases h)
        refine aq (p := .ptr r 0) (v := w') rfl rfl rfl (by simp (disch := omega) only [WW, BB, ↓ab, simprocAttr, q3]) (by simp (disch := omega) only [WW, BB, ↓ab, simprocAttr]) (aT (b := r) (off := 0) zr ty71 (bB hok2).1 (bB hok2).2 (by simp)) ?_
        rw [nE_append] at hok2
        have ur : upd X2 r (some (.row (List.set [w] 0 w'))) r = some (.row [w']) := ag _ _ _
        have ul : upd X2 r (some (.row (List.set [w] 0 w'))) l = some (.raw (ob .busy none)) := by rw [ah _ _ _ (Ne.symm hrl)]; exact zl
        have uG : hle G (upd X2 r (some (.row (List.set [w] 0 w')))) := ai hG2 gr
        have uok : okO G (upd X2 r (some (.row (List.set [w] 0 w')))) w' 1 (nE .i64 (done ++ [f.1])) := bj hok2 (fun es' h => by rw [zr] at h; cases h)
        generalize upd X2 r (some (.row (List.set [w] 0 w'))) = X3 at *
        by_cases c : f.1 = 240
        · repeat (first
    | (refine aa rfl fun K hK => ?_; simp (disch := omega) only [WW, BB, ↓ab, simprocAttr, decide_eq_true c]; refine hK _ _ ?_; clear hK) | (refine ae ?_; simp only [TH]; (((repeat ((fail_if_success refine hS _ _ ?_); clear hS)); refine hS _ _ ?_); clear hS; try clear hF)) | refine af fun K hS hF => ?_ | refine ac rfl ?_)
          refine aS (by simp (disch := omega) only [WW, BB, ↓ab, simprocAttr]) ?_
          refine aG ?_
          simp only [TH, Nat.reduceEqDiff, if_false, bL]
          refine ⟨⟨_, _, ul⟩, w', by rw [ah _ _ _ hrl]; exact ur, ai uG gl, by rw [if_pos hf]; exact bj uok (fun es' h => by rw [ul] at h; cases h), fun _ => ⟨trivial, ag _ _ _⟩, fun h => absurd ⟨hf, c⟩ h⟩
        · repeat (first
    | (refine aa rfl fun K hK => ?_; simp (disch := omega) only [WW, BB, ↓ab, simprocAttr, decide_eq_false c]; refine hK _ _ ?_; clear hK) | (refine ae ?_; simp only [TH]; (((repeat ((fail_if_success refine hS _ _ ?_); clear hS)); refine hS _ _ ?_); clear hS; try clear hF)) | refine af fun K hS hF => ?_ | refine ac rfl ?_)
          refine aE (by simp (disch := omega) only [WW, BB, ↓ab, simprocAttr]) ?_
          refine am ?_
          simp only [TH, bL]
          refine ⟨⟨_, _, ul⟩, w', by rw [ah _ _ _ hrl]; exact ur, ai uG gl, by rw [if_pos hf]; exact bj uok (fun es' h => by rw [ul] at h; cases h), fun h => absurd h.2 c, fun _ => ⟨trivial, ag _ _ _⟩⟩
    · rintro b X' ⟨w', h1, h2, h3, h4, h5⟩
      by_cases c : f.2.2 = true ∧ f.1 = 240
      · obtain ⟨rfl, y⟩ := h4 c
        refine .inl ⟨rfl, hQ X' w' h2 h1 ?_ (.inr y)⟩
        rw [if_pos c.1] at h3
        rw [allF, if_pos c.1, if_pos c.2]
        exact h3
      · obtain ⟨rfl, y⟩ := h5 c
        refine .inr ⟨rfl, flt33 q3 gr gl hrl fs (if f.2.2 then done ++ [f.1] else done) w' X' (by
          rw [List.length_cons] at hlen
          split
          · rw [List.length_append]; simp only [List.length_cons, List.length_nil]; omega
          · omega) (fun f hf => hfs f (by simp [hf])) h1 y h2 h3 fun X2 w2 z1 z2 z3 z4 => hQ X2 w2 z1 z2 ?_ z4⟩
        rw [allF]
        cases hf : f.2.2 with
        | false =>
          rw [hf] at z3
          simpa using z3
        | true =>
          rw [hf] at z3
          have : f.1 ≠ 240 := fun e => c ⟨hf, e⟩
          simpa [this] using z3

def s33 : Spec := fun _ args H Q => ∃ h v l, args = [.agg (hdC h ++ [v])] ∧ okHd h ∧ isTxs H v l ∧ okTs l ∧ ∀ w, ((w = .nils ∧ nE .i64 (allR h.root l) = []) ∨ w = .sl 1 (nE .i64 (allR h.root l)) false) → Q w H
theorem z71 : zeroT Try.prog 71 = some [.nils] := by kernel_rfl
theorem snd33 : Sound Try.prog 33 s33 := by
  refine ak pm sndF [1] Try.func33 rfl (by kernel_rfl) ?_
  rintro Y args H Q ⟨h, v, l, rfl, hoh, hx, hl, hQ⟩
  refine ⟨by simp [Try.f33], ?_⟩
  show wpC Try.prog SF Y [1] 21 _ true (aB Try.prog [.tmp 2] Q) _ H
  have hhl := aX hoh
  repeat (first
    | (refine aa rfl fun K hK => ?_; simp (disch := omega) only [WW, BB, ↓ab, simprocAttr]; refine hK _ _ ?_; clear hK) | (refine ae ?_; simp only [TH]; (((repeat ((fail_if_success refine hS _ _ ?_); clear hS)); refine hS _ _ ?_); clear hS; try clear hF)) | refine af fun K hS hF => ?_ | refine ac rfl ?_)
  refine aa rfl fun K hK => ⟨_, z71, fun r hr => hK _ _ ?_⟩
  have hX : ∀ z, hle H (upd H r z) := fun z => ai (aj _) hr
  repeat (first
    | (refine aa rfl fun K hK => ?_; simp (disch := omega) only [WW, BB, ↓ab, simprocAttr, ty49, agg49 hoh, bu98 hhl]; refine hK _ _ ?_; clear hK) | ((first | refine ae ?_ | refine wpC_label ?_); simp only [TH]; (((repeat ((fail_if_success refine hS _ _ ?_); clear hS)); refine hS _ _ ?_); clear hS; try clear hF)) | refine af fun K hS hF => ?_ | refine ac rfl ?_)
  refine aa rfl fun K hK => ⟨_, rfl, hK _ _ ?_⟩
  repeat (first
    | (refine ae ?_; simp only [TH]; (((repeat ((fail_if_success refine hS _ _ ?_); clear hS)); refine hS _ _ ?_); clear hS; try clear hF)) | refine ax ?_)
  refine wpC_range (f := 60) (first := []) (caps := [.cptr (hdC h ++ [v]) 0]) (by simp (disch := omega) only [WW, BB, ↓ab, simprocAttr]) (by kernel_rfl) fun l' ob hl0 => ?_
  have hl1 := aF hl0
  have hrl : r ≠ l' := hl1.1
  have gl : H l' = none := hl1.2
  refine ⟨l', hdC h ++ [v], rfl, by simp [hhl], ?_⟩
  refine flt33 (Y := Y) (r := r) (G := H) ?_ hr gl hrl (fl h.root l) [] .nils _ (by simp [fl]) (fun f hf X Q hXX hq => callF hoh (bX hXX hx) hl f hf hq) (by rw [ah _ _ _ hrl]; exact ag _ _ _) (ag _ _ _) (ai (hX _) gl) (.inl ⟨rfl, rfl⟩) fun X' w z1 z2 z3 z4 => ?_
  · simp (disch := omega) only [WW, BB, ↓ab, simprocAttr]
  rw [List.nil_append] at z3
  have yr : upd X' l' none r = some (.row [w]) := by rw [ah _ _ _ hrl]; exact z2
  have yG : hle H (upd X' l' none) := ai z1 gl
  have yok : okO H (upd X' l' none) w 1 (nE .i64 (allR h.root l)) := bj z3 (fun es' h => by rcases z4 with e | e <;> rw [e] at h <;> cases h)
  have fin : ∀ (t' : T), t' 3 = .ptr r 0 → wpC Try.prog SF Y [1] 21 (.seq (regAt Try.f33 8) .ret) true (noGotoA (aB Try.prog [.tmp 2] Q)) t' (upd X' l' none) := fun t' q3' => by
    refine af fun K hS hF => ?_
    show wpC Try.prog _ Y [1] 21 (.region 8 _ false) true _ t' _
    repeat (first
    | (refine aa rfl fun K hK => ?_; simp (disch := omega) only [WW, BB, ↓ab, simprocAttr, q3', aw (off := 0) yr ty71 rfl]; refine hK _ _ ?_; clear hK) | (refine ae ?_; simp only [TH]; (((repeat ((fail_if_success refine hS _ _ ?_); clear hS)); refine hS _ _ ?_); clear hS; try clear hF)) | refine ac rfl ?_ | (refine al ?_; simp (disch := omega) only [TH, TE, WW, BB, ↓ab, simprocAttr, q3', aw (off := 0) yr ty71 rfl]))
    exact ⟨_, rfl, okO_seal yok yG fun w hw => hQ w hw⟩
  rcases z4 with z4 | z4
  · refine ⟨_, _, z4, by simp, ?_⟩
    simp only [endA, TH]
    refine hS _ _ (fin _ ?_)
    simp (disch := omega) only [WW, BB, ↓ab, simprocAttr]
  · refine ⟨_, _, z4, by simp, ?_⟩
    simp only [endA, TH, ↓reduceIte]
    refine hS _ _ (fin _ ?_)
    simp (disch := omega) only [WW, BB, ↓ab, simprocAttr]
end Go.Av

set_option linter.unusedSimpArgs false
set_option linter.unusedVariables false
namespace Go.Av
open Go.RowKit Go.Proofs

/-- Outputs by value. -/
def isVO (u : V) (outs : List TOut) : Prop := notR u = true ∧ one u = true ∧ ∃ eo, (∀ H, ao H 2 u = some eo) ∧ Each isOutV eo outs
/-- A transaction's cells, its inputs in the row e. -/
def rowT (H X : Hp) (f : List V) (k : Option Nat) (x : TTx) : Prop := x.ver < 4294967296 ∧ x.lock < 4294967296 ∧ ∃ u, isVO u x.outs ∧
  match k with
  | none => f = [vN .u32 x.ver, .nils, u, vN .u32 x.lock] ∧ x.ins = []
  | some e => ∃ es, f = [vN .u32 x.ver, .osl e 0 es.length 35 false, u, vN .u32 x.lock] ∧ X e = some (.arr 35 es) ∧ H e = none ∧ Each isInV es x.ins

theorem rowT_tx {H X : Hp} {f : List V} {k : Option Nat} {x : TTx} (h : rowT H X f k x) : isTx X f x := by
  obtain ⟨h1, h2, u, ⟨h3, h4, eo, h5, h6⟩, h7⟩ := h
  cases k with
  | none =>
    obtain ⟨rfl, h8⟩ := h7
    exact ⟨.nils, u, [], eo, rfl, rfl, rfl, by rw [h8]; exact ⟨rfl, fun i a b ha hb => by simp at ha⟩, h5 X, h3, h6.imp fun _ _ h => h.2 X, h1, h2⟩
  | some e =>
    obtain ⟨es, rfl, h8, h9, h10⟩ := h7
    refine ⟨_, u, es, eo, rfl, ?_, rfl, h10.imp fun _ _ h => h.2 X, h5 X, h3, h6.imp fun _ _ h => h.2 X, h1, h2⟩
    simp only [ao, h8]
    rw [if_pos ⟨trivial, trivial, by omega⟩, List.drop_zero, List.take_of_length_le (Nat.le_refl _)]
theorem rowT_ones {H X : Hp} {f : List V} {k : Option Nat} {x : TTx} (h : rowT H X f k x) : f.all one = true ∧ f.length = 4 := by
  obtain ⟨h1, h2, u, ⟨h3, h4, eo, h5, h6⟩, h7⟩ := h
  cases k with
  | none =>
    obtain ⟨rfl, h8⟩ := h7
    exact ⟨by rw [List.all_cons, List.all_cons, List.all_cons, h4]; rfl, rfl⟩
  | some e =>
    obtain ⟨es, rfl, h8, h9, h10⟩ := h7
    exact ⟨by rw [List.all_cons, List.all_cons, List.all_cons, h4]; rfl, rfl⟩
/-- In another heap that has the row too. -/
theorem rowT_mv {H X X' : Hp} {f : List V} {k : Option Nat} {x : TTx} (h : rowT H X f k x) (hk : ∀ e, k = some e → X' e = X e) : rowT H X' f k x := by
  obtain ⟨h1, h2, u, h3, h7⟩ := h
  refine ⟨h1, h2, u, h3, ?_⟩
  cases k with
  | none => exact h7
  | some e =>
    obtain ⟨es, h8, h9, h10⟩ := h7
    exact ⟨es, h8, by rw [hk e rfl]; exact h9, h10⟩

/-- The outputs become a value; the inputs stay. -/
theorem okO_sealO {H X : Hp} {x : TTx} {w1 w2 : V} {es1 es2 : List (List V)} {Q : V → Hp → Prop} (hver : x.ver < 4294967296) (hlock : x.lock < 4294967296) (h1 : okO H X w1 35 es1) (h2 : okO H X w2 2 es2) (hX : hle H X) (g1 : Each isInV es1 x.ins) (g2 : Each isOutV es2 x.outs)
    (hQ : ∀ f k H', rowT H H' f k x → (k = none ∧ H' = H ∨ ∃ e es, k = some e ∧ H e = none ∧ H' = upd H e (some (.arr 35 es))) → Q (.agg f) H') : ∃ B, sealA B (.agg [vN .u32 x.ver, w1, w2, vN .u32 x.lock]) X Q := by
  have vo : ∀ {u : V}, ((u = .nils ∧ es2 = []) ∨ u = .sl 2 es2 false) → isVO u x.outs := fun h => by
    rcases h with ⟨rfl, rfl⟩ | rfl
    · exact ⟨rfl, rfl, [], fun _ => rfl, g2⟩
    · exact ⟨rfl, rfl, es2, fun _ => bg, g2⟩
  have isn : es1 = [] → x.ins = [] := fun h => by
    have := g1.1
    rw [h] at this
    exact List.eq_nil_of_length_eq_zero this.symm
  rcases h1 with ⟨rfl, rfl⟩ | ⟨e1, n1, x1, rfl⟩
  · rcases h2 with ⟨rfl, rfl⟩ | ⟨e2, n2, x2, rfl⟩
    · exact ⟨[], H, hX, hQ _ none H ⟨hver, hlock, .nils, vo (.inl ⟨rfl, rfl⟩), rfl, isn rfl⟩ (.inl ⟨rfl, rfl⟩)⟩
    · refine ⟨[e2], .arr 2 es2, x2, rfl, H, ai hX n2, ?_⟩
      simp only [subV, subL, if_true, vN]
      rw [if_pos ⟨trivial, by omega⟩, List.drop_zero, List.take_of_length_le (Nat.le_refl _)]
      exact hQ _ none H ⟨hver, hlock, _, vo (.inr rfl), rfl, isn rfl⟩ (.inl ⟨rfl, rfl⟩)
  · have low : ∀ {Z : Hp}, hle H Z → Z e1 = some (.arr 35 es1) → ∀ b y, upd H e1 (some (.arr 35 es1)) b = some y → Z b = some y := fun {Z} hZ hz b y hb => by
      by_cases c : b = e1
      · subst c; rw [ag] at hb; cases hb; exact hz
      · rw [ah _ _ _ c] at hb; exact hZ b y hb
    rcases h2 with ⟨rfl, rfl⟩ | ⟨e2, n2, x2, rfl⟩
    · exact ⟨[], upd H e1 (some (.arr 35 es1)), low hX x1, hQ _ (some e1) _ ⟨hver, hlock, .nils, vo (.inl ⟨rfl, rfl⟩), es1, rfl, ag _ _ _, n1, g1⟩ (.inr ⟨e1, es1, rfl, n1, rfl⟩)⟩
    · have hne : e1 ≠ e2 := fun h => by subst h; rw [x1] at x2; cases x2
      refine ⟨[e2], .arr 2 es2, x2, rfl, upd H e1 (some (.arr 35 es1)), low (ai hX n2) (by rw [ah _ _ _ hne]; exact x1), ?_⟩
      simp only [subV, subL, if_true, vN, hne, if_false]
      rw [if_pos ⟨trivial, by omega⟩, List.drop_zero, List.take_of_length_le (Nat.le_refl _)]
      exact hQ _ (some e1) _ ⟨hver, hlock, _, vo (.inr rfl), es1, rfl, ag _ _ _, n1, g1⟩ (.inr ⟨e1, es1, rfl, n1, rfl⟩)

def s45o : Spec := fun _ args H Q => ∃ cs x, args = [.agg cs] ∧ isTx H cs x ∧ okT x ∧ ∀ f k H', rowT H H' f k x → (k = none ∧ H' = H ∨ ∃ e es, k = some e ∧ H e = none ∧ H' = upd H e (some (.arr 35 es))) → Q (.agg f) H'
theorem snd45o : Sound Try.prog 45 s45o := by
  refine ak pm (ap [(58, s58)] (by simp [snd58])) [1] Try.func45 rfl (by kernel_rfl) ?_
  rintro Y args H Q ⟨cs, x, rfl, ⟨vi, vo, ei, eo, rfl, hvi, hni, hei, hvo, hno, heo, hver, hlock⟩, ho, hQ⟩
  refine ⟨by simp [Try.f45], ?_⟩
  show wpC Try.prog (tab [(58, s58)]) Y [1] 58 _ true (aB Try.prog [.cell 2 56] Q) _ H
  repeat (first
    | (refine aa rfl fun K hK => ?_; simp (disch := omega) only [WW, BB, ↓ab, simprocAttr]; refine hK _ _ ?_; clear hK) | refine af fun K hS hF => ?_ | refine ac rfl ?_)
  refine aa rfl fun K hK => ⟨_, z56, fun b2 hb2 => hK _ _ ?_⟩
  repeat (first
    | (refine aa rfl fun K hK => ?_; simp (disch := omega) only [WW, BB, ↓ab, simprocAttr, fl56_0, fl56_3, ty44, bu56c]; refine hK _ _ ?_; clear hK) | (refine ae ?_; simp only [TH]; (((repeat ((fail_if_success refine hS _ _ ?_); clear hS)); refine hS _ _ ?_); clear hS; try clear hF)) | refine af fun K hS hF => ?_ | refine ac rfl ?_)
  refine aa rfl fun K hK => ⟨_, z56, fun b3 hb3 => hK _ _ ?_⟩
  have hb3' := aF hb3
  refine aq (p := .ptr b3 0) (v := .agg [vN .u32 x.ver, .nils, .nils, vN .u32 x.lock]) rfl rfl rfl (by simp (disch := omega) only [WW, BB, ↓ab, simprocAttr]) (by simp (disch := omega) only [WW, BB, ↓ab, simprocAttr]) (au (b := b3) (ag _ _ _) ty56 rfl rfl rfl) ?_
  rw [aD]
  have hX := ai (z := some (.row [vN .u32 x.ver, .nils, .nils, vN .u32 x.lock])) (ai (z := some (.row [vN .u32 0, .nils, .nils, vN .u32 0])) (aj H) hb2) hb3'.2
  have x2 : upd (upd H b2 (some (.row [vN .u32 0, .nils, .nils, vN .u32 0]))) b3 (some (.row [vN .u32 x.ver, .nils, .nils, vN .u32 x.lock])) b2 = some (.row [vN .u32 0, .nils, .nils, vN .u32 0]) := by rw [ah _ _ _ hb3'.1, ag]
  have x3 : upd (upd H b2 (some (.row [vN .u32 0, .nils, .nils, vN .u32 0]))) b3 (some (.row [vN .u32 x.ver, .nils, .nils, vN .u32 x.lock])) b3 = some (.row [vN .u32 x.ver, .nils, .nils, vN .u32 x.lock]) := ag _ _ _
  generalize upd (upd H b2 (some (.row [vN .u32 0, .nils, .nils, vN .u32 0]))) b3 (some (.row [vN .u32 x.ver, .nils, .nils, vN .u32 x.lock])) = X at *
  repeat (first
    | (refine aa rfl fun K hK => ?_; simp (disch := omega) only [WW, BB, ↓ab, simprocAttr]; refine hK _ _ ?_; clear hK) | (refine ae ?_; simp only [TH]; (((repeat ((fail_if_success refine hS _ _ ?_); clear hS)); refine hS _ _ ?_); clear hS; try clear hF)) | refine af fun K hS hF => ?_ | refine ac rfl ?_ | refine ax ?_)
  refine l45a (b2 := b2) (b3 := b3) (vi := vi) (vo := vo) (ver := x.ver) (lock := x.lock) ?_ ?_ ?_ ?_ hvi hei ho.1 ho.2.2.1 hb2 hb3'.2 hb3'.1 hX x2 x3 fun t' X' w1 es1 q1 q2 q3 hX x2 x3 hok1 hes1 => ?_
  · simp (disch := omega) only [WW, BB, ↓ab, simprocAttr]
  · simp (disch := omega) only [WW, BB, ↓ab, simprocAttr]
  · simp (disch := omega) only [WW, BB, ↓ab, simprocAttr]
  · simp (disch := omega) only [WW, BB, ↓ab, simprocAttr]
  (simp only [TH, ↓reduceIte, Nat.reduceEqDiff]; ((repeat ((fail_if_success refine hS _ _ ?_); clear hS)); refine hS _ _ ?_); clear hS; try clear hF)
  repeat (first
    | (refine aa rfl fun K hK => ?_; simp (disch := omega) only [WW, BB, ↓ab, simprocAttr]; refine hK _ _ ?_; clear hK) | (refine ae ?_; simp only [TH]; (((repeat ((fail_if_success refine hS _ _ ?_); clear hS)); refine hS _ _ ?_); clear hS; try clear hF)) | refine af fun K hS hF => ?_ | refine ac rfl ?_ | refine ax ?_)
  refine l45b (b2 := b2) (b3 := b3) (vi := vi) (vo := vo) (ver := x.ver) (lock := x.lock) (w1 := w1) ?_ ?_ ?_ ?_ hvo heo ho.2.1 ho.2.2.2 hb2 hb3'.2 hb3'.1 hX x2 x3 hok1 fun t' X' w2 es2 q1 q2 q3 hX x2 x3 hok1 hok2 hes2 => ?_
  · simp (disch := omega) only [WW, BB, ↓ab, simprocAttr, q1]
  · simp (disch := omega) only [WW, BB, ↓ab, simprocAttr, q2]
  · simp (disch := omega) only [WW, BB, ↓ab, simprocAttr, q3]
  · simp (disch := omega) only [WW, BB, ↓ab, simprocAttr]
  (simp only [TH, ↓reduceIte, Nat.reduceEqDiff]; ((repeat ((fail_if_success refine hS _ _ ?_); clear hS)); refine hS _ _ ?_); clear hS; try clear hF)
  have o1 := (bB hok1).2
  have o2 := (bB hok2).2
  have hall : [vN .u32 x.ver, w1, w2, vN .u32 x.lock].all one = true := by rw [List.all_cons, List.all_cons, List.all_cons, o1, o2]; rfl
  repeat (first
    | (refine aa rfl fun K hK => ?_; simp (disch := omega) only [WW, BB, ↓ab, simprocAttr, q3, aJ (P := Try.prog) (t := 56) (b := b3) x3 ty56 rfl]; refine hK _ _ ?_; clear hK) | refine af fun K hS hF => ?_ | refine ac rfl ?_)
  refine aq (p := .ptr b2 0) (v := .agg [vN .u32 x.ver, w1, w2, vN .u32 x.lock]) rfl rfl rfl (by simp (disch := omega) only [WW, BB, ↓ab, simprocAttr, q2]) (by simp (disch := omega) only [WW, BB, ↓ab, simprocAttr]) (au (b := b2) x2 ty56 rfl hall rfl) ?_
  repeat (first
    | (refine ae ?_; simp only [TH]; (((repeat ((fail_if_success refine hS _ _ ?_); clear hS)); refine hS _ _ ?_); clear hS; try clear hF)) | (refine al ?_; simp (disch := omega) only [TH, TE, WW, BB, ↓ab, simprocAttr, q2, aJ (P := Try.prog) (t := 56) (b := b2) (ag X' b2 (some (.row [vN .u32 x.ver, w1, w2, vN .u32 x.lock]))) ty56 rfl]))
  exact ⟨_, rfl, okO_sealO hver hlock (bj hok1 (fun es' h => by rw [x2] at h; cases h)) (bj hok2 (fun es' h => by rw [x2] at h; cases h)) (ai hX hb2) hes1 hes2 hQ⟩
end Go.Av

set_option linter.unusedSimpArgs false
set_option linter.unusedVariables false
namespace Go.Av
open Go.RowKit Go.Proofs

/-- Rows that may be written, of transactions. -/
structure Rows4 (H X : Hp) (fs : List (List V)) (ks : List (Option Nat)) (l : List TTx) : Prop where
  lf : fs.length = l.length
  lk : ks.length = l.length
  row : ∀ (j : Nat) f k x, fs[j]? = some f → ks[j]? = some k → l[j]? = some x → rowT H X f k x
  nd : (ks.filterMap id).Nodup
theorem Rows4.at_some {H X : Hp} {fs : List (List V)} {ks : List (Option Nat)} {l : List TTx} (h : Rows4 H X fs ks l) {e : Nat} (he : some e ∈ ks) : ∃ es, X e = some (.arr 35 es) ∧ H e = none := by
  obtain ⟨j, hj⟩ := List.mem_iff_getElem?.1 he
  have hjl := (List.getElem?_eq_some_iff.1 hj).1
  have h1 : j < fs.length := by rw [h.lf, ← h.lk]; exact hjl
  have h2 : j < l.length := by rw [← h.lk]; exact hjl
  obtain ⟨_, _, u, _, es, _, h3, h4, _⟩ := h.row j _ _ _ (List.getElem?_eq_getElem h1) hj (List.getElem?_eq_getElem h2)
  exact ⟨es, h3, h4⟩
theorem Rows4.mv {H X X' : Hp} {fs : List (List V)} {ks : List (Option Nat)} {l : List TTx} (h : Rows4 H X fs ks l) (hk : ∀ e, some e ∈ ks → X' e = X e) : Rows4 H X' fs ks l :=
  ⟨h.lf, h.lk, fun j f k x a b c => rowT_mv (h.row j f k x a b c) fun e he => hk e (by rw [← he]; exact List.mem_of_getElem? b), h.nd⟩
theorem Rows4.nil {H X : Hp} : Rows4 H X [] [] [] := ⟨rfl, rfl, fun j f k x a => by simp at a, by simp⟩
theorem Rows4.snoc {H X : Hp} {fs : List (List V)} {ks : List (Option Nat)} {l : List TTx} {f : List V} {k : Option Nat} {x : TTx} (h : Rows4 H X fs ks l) (hr : rowT H X f k x) (hn : ∀ e, k = some e → some e ∉ ks) : Rows4 H X (fs ++ [f]) (ks ++ [k]) (l ++ [x]) := by
  refine ⟨by simp [h.lf], by simp [h.lk], fun j f' k' x' a b c => ?_, ?_⟩
  · by_cases hj : j < l.length
    · rw [List.getElem?_append_left (by rw [h.lf]; exact hj)] at a
      rw [List.getElem?_append_left (by rw [h.lk]; exact hj)] at b
      rw [List.getElem?_append_left hj] at c
      exact h.row j f' k' x' a b c
    · rw [List.getElem?_append_right (by rw [h.lf]; omega), h.lf] at a
      rw [List.getElem?_append_right (by rw [h.lk]; omega), h.lk] at b
      rw [List.getElem?_append_right (by omega)] at c
      have : j - l.length = 0 := by
        have := (List.getElem?_eq_some_iff.1 c).1
        simp at this
        omega
      rw [this] at a b c
      cases a; cases b; cases c
      exact hr
  · rw [List.filterMap_append]
    cases k with
    | none => simpa using h.nd
    | some e =>
      simp only [List.filterMap_cons, List.filterMap_nil, id, List.nodup_append]
      refine ⟨h.nd, by simp, fun a ha b hb => ?_⟩
      rw [List.mem_singleton] at hb
      subst hb
      obtain ⟨k, hk, hke⟩ := List.mem_filterMap.1 ha
      simp only [id] at hke
      subst hke
      intro hab
      subst hab
      exact hn _ rfl hk

def s28o : Spec := fun _ args H Q => ∃ h v l, args = [.agg (hdC h ++ [v])] ∧ okHd h ∧ isTxs H v l ∧ okTs l ∧ ∀ w X fs ks, hle H X → okO H X w 4 fs → Rows4 H X fs ks l → Q (.agg (hdC h ++ [w])) X
theorem snd28o : Sound Try.prog 28 s28o := by
  refine ak pm (ap [(45, s45o)] (by simp [snd45o])) [1] Try.func28 rfl (by kernel_rfl) ?_
  rintro Y args H Q ⟨h, v, l, rfl, hoh, ⟨es, hv, hnv, hes⟩, hl, hQ⟩
  refine ⟨by simp [Try.f28], ?_⟩
  show wpC Try.prog (tab [(45, s45o)]) Y [1] 29 _ true (aB Try.prog [.cell 2 49] Q) _ H
  have hly := av (P := Try.prog) sl47 hv
  rw [hes.1] at hly
  have hl1 := hl.1
  have hhl := aX hoh
  have hzl := aX (rtH_ok h0_ok)
  have hones : ∀ w, one w = true → (hdC h ++ [w]).all one = true := fun w hw => by rw [List.all_append, hdC_ones]; simp only [List.all_cons, hw]; rfl
  repeat (first
    | (refine aa rfl fun K hK => ?_; simp (disch := omega) only [WW, BB, ↓ab, simprocAttr]; refine hK _ _ ?_; clear hK) | refine af fun K hS hF => ?_ | refine ac rfl ?_)
  refine aa rfl fun K hK => ⟨_, z49, fun b2 hb2 => hK _ _ ?_⟩
  repeat (first
    | (refine aa rfl fun K hK => ?_; simp (disch := omega) only [WW, BB, ↓ab, simprocAttr, fl49_0, ty46, agg46 hoh, bu49h hoh]; refine hK _ _ ?_; clear hK) | (refine ae ?_; simp only [TH]; (((repeat ((fail_if_success refine hS _ _ ?_); clear hS)); refine hS _ _ ?_); clear hS; try clear hF)) | refine af fun K hS hF => ?_ | refine ac rfl ?_)
  refine aa rfl fun K hK => ⟨_, z49, fun b3 hb3 => hK _ _ ?_⟩
  have hb3' := aF hb3
  refine aq (p := .ptr b3 0) (v := .agg (hdC h ++ [.nils])) rfl rfl rfl (by simp (disch := omega) only [WW, BB, ↓ab, simprocAttr]) (by simp (disch := omega) only [WW, BB, ↓ab, simprocAttr]) (au (b := b3) (ag _ _ _) ty49 (by simp [hhl]) (hones _ rfl) (by simp [hzl])) ?_
  rw [aD]
  have hX := ai (z := some (.row (hdC h ++ [.nils]))) (ai (z := some (.row (hdC (rtH h0) ++ [.nils]))) (aj H) hb2) hb3'.2
  have x2 : upd (upd H b2 (some (.row (hdC (rtH h0) ++ [.nils])))) b3 (some (.row (hdC h ++ [.nils]))) b2 = some (.row (hdC (rtH h0) ++ [.nils])) := by rw [ah _ _ _ hb3'.1, ag]
  have x3 : upd (upd H b2 (some (.row (hdC (rtH h0) ++ [.nils])))) b3 (some (.row (hdC h ++ [.nils]))) b3 = some (.row (hdC h ++ [.nils])) := ag _ _ _
  generalize upd (upd H b2 (some (.row (hdC (rtH h0) ++ [.nils])))) b3 (some (.row (hdC h ++ [.nils]))) = X at *
  repeat (first
    | (refine aa rfl fun K hK => ?_; simp (disch := omega) only [WW, BB, ↓ab, simprocAttr]; refine hK _ _ ?_; clear hK) | (refine ae ?_; simp only [TH]; (((repeat ((fail_if_success refine hS _ _ ?_); clear hS)); refine hS _ _ ?_); clear hS; try clear hF)) | refine af fun K hS hF => ?_ | refine ac rfl ?_ | refine ax ?_)
  refine aO (fun m t X => ∃ i w fs ks, m = l.length - i ∧ i ≤ l.length ∧ t 1 = .cptr (hdC h ++ [v]) 0 ∧ t 2 = .ptr b2 0 ∧ t 3 = .ptr b3 0 ∧ t 4 = vN .i64 i ∧ hle H X ∧ X b2 = some (.row (hdC (rtH h0) ++ [.nils])) ∧ X b3 = some (.row (hdC h ++ [w])) ∧ okO H X w 4 fs ∧ Rows4 H X fs ks (l.take i)) l.length
    ⟨0, .nils, [], [], rfl, by omega, by simp (disch := omega) only [WW, BB, ↓ab, simprocAttr], by simp (disch := omega) only [WW, BB, ↓ab, simprocAttr], by simp (disch := omega) only [WW, BB, ↓ab, simprocAttr], by simp (disch := omega) only [WW, BB, ↓ab, simprocAttr], hX, x2, x3, .inl ⟨rfl, rfl⟩, .nil⟩ fun KL m t X hI hKL => ?_
  clear hX x2 x3
  obtain ⟨i, w, fs, ks, rfl, hi, q1, q2, q3, q4, hX, x2, x3, hok, hfs⟩ := hI
  repeat (first
    | (refine aa rfl fun K hK => ?_; simp (disch := omega) only [WW, BB, ↓ab, simprocAttr, q1, q4, bu, ty47, bE hhl, hly]; refine hK _ _ ?_; clear hK) | (refine ae ?_; simp only [TH]; (((repeat ((fail_if_success refine hS _ _ ?_); clear hS)); refine hS _ _ ?_); clear hS; try clear hF)) | refine af fun K hS hF => ?_ | refine ac rfl ?_)
  refine aH rfl (fun hd => ?_) (fun hd => ?_)
  · (refine am ?_; simp only [TH]; ((repeat ((fail_if_success refine hS _ _ ?_); clear hS)); refine hS _ _ ?_); clear hS; try clear hF)
    obtain ⟨o, ho⟩ : ∃ o, l[i]? = some o := ⟨_, List.getElem?_eq_getElem hd⟩
    have hmem := List.mem_of_getElem? ho
    obtain ⟨e, he, hio⟩ := hes.get ho
    obtain ⟨pp, hp, hpl⟩ := bc (P := Try.prog) (k := .i64) ar47 sl47 (aL hX hv) he (isTx_len hio)
    have htk : l.take (i + 1) = l.take i ++ [o] := by
      rw [List.take_succ_eq_append_getElem hd, ← (List.getElem?_eq_some_iff.1 ho).2]
    repeat (first
    | (refine aa rfl fun K hK => ?_; simp (disch := omega) only [WW, BB, ↓ab, simprocAttr, q1, q4, bu, ty47, bE hhl, hp, hpl, ty56]; refine hK _ _ ?_; clear hK) | refine af fun K hS hF => ?_ | refine ac rfl ?_)
    refine aa rfl fun K hK => ⟨e, o, rfl, isTx_le hX hio, hl.2 o hmem, fun cs' k X1 hrow hX1 => hK _ _ ?_⟩
    clear hK
    -- what the call has made
    have hnew : ∀ e, k = some e → X e = none := fun e hke => by
      rcases hX1 with ⟨h1, _⟩ | ⟨e', es', h1, h2, _⟩
      · rw [h1] at hke; cases hke
      · rw [h1] at hke; cases hke; exact h2
    have hkeep : ∀ b y, X b = some y → X1 b = some y := fun b y hb => by
      rcases hX1 with ⟨_, rfl⟩ | ⟨e', es', _, h2, rfl⟩
      · exact hb
      · rw [ah _ _ _ (fun h => by subst h; rw [hb] at h2; cases h2)]; exact hb
    have hG1 : hle H X1 := fun b y hb => hkeep b y (hX b y hb)
    have hrow' : rowT H X1 cs' k o := by
      obtain ⟨r1, r2, u, r3, r4⟩ := hrow
      refine ⟨r1, r2, u, r3, ?_⟩
      cases k with
      | none => exact r4
      | some e => obtain ⟨es', r5, r6, r7, r8⟩ := r4; exact ⟨es', r5, r6, bI hX r7, r8⟩
    have hok1 : okO H X1 w 4 fs := by
      rcases hX1 with ⟨_, rfl⟩ | ⟨e', es', _, h2, rfl⟩
      · exact hok
      · exact bj hok (fun es' h => by rw [h2] at h; cases h)
    have hfs1 : Rows4 H X1 fs ks (l.take i) := hfs.mv fun e he => by
      obtain ⟨es', h1, _⟩ := hfs.at_some he
      rw [h1]
      exact hkeep _ _ h1
    have hnk : ∀ e, k = some e → some e ∉ ks := fun e hke hm => by
      obtain ⟨es', h1, _⟩ := hfs.at_some hm
      rw [hnew e hke] at h1
      cases h1
    have w2 := hkeep _ _ x2
    have w3 := hkeep _ _ x3
    have hco := rowT_ones hrow'
    refine as_frz (d := 5) (v := .agg cs') rfl rfl rfl rfl rfl rfl z56 (fun H' b hb => au hb ty56 hco.2 hco.1 rfl) (by decide) hF (fun p => by simp (disch := omega) only [WW, BB, ↓ab, simprocAttr]) ?_
    clear hX1 hX hok hfs x2 x3 hrow hkeep hnew
    repeat (first
    | (refine aa rfl fun K hK => ?_; simp (disch := omega) only [WW, BB, ↓ab, simprocAttr, q3, bu, aw (off := 68) w3 ty47 (by rw [List.getElem?_append_right (by omega), hhl]; rfl), ty56, aggAll hco.2]; refine hK _ _ ?_; clear hK) | refine ac rfl ?_)
    refine aa rfl fun K hK => bsA1 (xs := cs') zs47 (by simp (disch := omega) only [WW, BB, ↓ab, simprocAttr]) hco.2 (by omega) (hK _ _ ?_)
    refine aa rfl fun K hK => ?_
    simp (disch := omega) only [WW, BB, ↓ab, simprocAttr]
    have hfl : fs.length = i := by rw [hfs1.lf, List.length_take]; omega
    refine cg (fs := [cs']) hok1 hG1 ds47 sl47 bg (by simpa only [bo, List.all_cons, List.all_nil, Bool.and_true] using hco.1) (by simp) (by rw [by47, hfl]; simp; omega) (by rw [hfl]; simp; omega) fun w' X2 hok2 hX2 hk2 => hK _ _ ?_
    have y2 := hk2 _ _ w2 (fun _ h => by cases h)
    have y3 := hk2 _ _ w3 (fun _ h => by cases h)
    repeat (refine aa rfl fun K hK => ?_; simp (disch := omega) only [WW, BB, ↓ab, simprocAttr, q3, bu]; refine hK _ _ ?_; clear hK)
    refine aq (p := .ptr b3 68) (v := w') rfl rfl rfl (by simp (disch := omega) only [WW, BB, ↓ab, simprocAttr]) (by simp (disch := omega) only [WW, BB, ↓ab, simprocAttr]) (aT (b := b3) (off := 68) y3 ty47 (bB hok2).1 (bB hok2).2 (by simp [hhl])) ?_
    rw [set68 hoh]
    have hfin : Rows4 H (upd X2 b3 (some (.row (hdC h ++ [w'])))) (fs ++ [cs']) (ks ++ [k]) (l.take (i + 1)) := by
      rw [htk]
      refine (hfs1.snoc hrow' hnk).mv fun e he => ?_
      obtain ⟨es', h1, _⟩ := (hfs1.snoc hrow' hnk).at_some he
      have h2 := hk2 _ _ h1 (fun _ h => by cases h)
      have hne : e ≠ b3 := fun h => by subst h; rw [h1] at w3; cases w3
      rw [ah _ _ _ hne, h1, h2]
    repeat (first
    | (refine aa rfl fun K hK => ?_; simp (disch := omega) only [WW, BB, ↓ab, simprocAttr, q4, aP]; refine hK _ _ ?_; clear hK) | (refine ae ?_; simp only [TH]; first | (((repeat ((fail_if_success refine hS _ _ ?_); clear hS)); refine hS _ _ ?_); clear hS; try clear hF) | skip) | refine ac rfl ?_)
    refine hKL (l.length - (i + 1)) _ _ (by omega) ⟨i + 1, w', fs ++ [cs'], ks ++ [k], rfl, by omega, ?_, ?_, ?_, ?_, ai hX2 hb3'.2, by rw [ah _ _ _ hb3'.1]; exact y2, ag _ _ _, bj hok2 (fun es' h => by rw [y3] at h; cases h), hfin⟩
    · simp (disch := omega) only [WW, BB, ↓ab, simprocAttr, q1]
    · simp (disch := omega) only [WW, BB, ↓ab, simprocAttr, q2]
    · simp (disch := omega) only [WW, BB, ↓ab, simprocAttr, q3]
    · simp (disch := omega) only [WW, BB, ↓ab, simprocAttr]
  · (refine aG ?_; simp only [TH, ↓reduceIte, Nat.reduceEqDiff]; ((repeat ((fail_if_success refine hS _ _ ?_); clear hS)); refine hS _ _ ?_); clear hS; try clear hF)
    have : i = l.length := by omega
    subst this
    rw [List.take_of_length_le (Nat.le_refl _)] at hfs
    have o1 := (bB hok).2
    repeat (first
    | (refine aa rfl fun K hK => ?_; simp (disch := omega) only [WW, BB, ↓ab, simprocAttr, q3, aJ (P := Try.prog) (t := 49) (b := b3) x3 ty49 (by simp [hhl])]; refine hK _ _ ?_; clear hK) | refine af fun K hS hF => ?_ | refine ac rfl ?_)
    refine aq (p := .ptr b2 0) (v := .agg (hdC h ++ [w])) rfl rfl rfl (by simp (disch := omega) only [WW, BB, ↓ab, simprocAttr, q2]) (by simp (disch := omega) only [WW, BB, ↓ab, simprocAttr]) (au (b := b2) x2 ty49 (by simp [hhl]) (hones _ o1) (by simp [hzl])) ?_
    repeat (first
    | (refine ae ?_; simp only [TH]; (((repeat ((fail_if_success refine hS _ _ ?_); clear hS)); refine hS _ _ ?_); clear hS; try clear hF)) | (refine al ?_; simp (disch := omega) only [TH, TE, WW, BB, ↓ab, simprocAttr, q2, aJ (P := Try.prog) (t := 49) (b := b2) (ag X b2 (some (.row (hdC h ++ [w])))) ty49 (by simp [hhl])]))
    refine ⟨_, rfl, [], _, aj _, hQ w _ fs ks (ai hX hb2) (bj hok (fun es' h => by rw [x2] at h; cases h)) (hfs.mv fun e he => ?_)⟩
    obtain ⟨es', h1, _⟩ := hfs.at_some he
    rw [ah _ _ _ (fun h => by subst h; rw [h1] at x2; cases x2)]
end Go.Av

set_option linter.unusedSimpArgs false
set_option linter.unusedVariables false
namespace Go.Av
open Go.RowKit Go.Proofs

def xr (a b : Nat) : Nat := (a ^^^ b) % 4294967296
def mI (seq : Nat) (i : TIn) : TIn := { i with seq := xr i.seq seq }
def mT (ver lock seq : Nat) (x : TTx) : TTx := { x with ver := xr x.ver ver, lock := xr x.lock lock, ins := x.ins.map (mI seq) }
def mL (ver lock seq : Nat) (l : List TTx) : List TTx := l.map (mT ver lock seq)

section
variable {ver lock seq : Nat}
theorem scripts_m (x : TTx) : scripts (mT ver lock seq x) = scripts x := by
  simp only [scripts, mT, List.map_map]
  rfl
theorem chkB_m (x : TTx) : chkB (mT ver lock seq x) = chkB x := by
  have e : (mT ver lock seq x).ins.length = x.ins.length := by simp [mT]
  rw [chkB, chkB, badN, badN, scripts_m, e]
  rfl
theorem pnts_m (x : TTx) : pnts (mT ver lock seq x) = pnts x := by
  simp only [pnts, mT, List.map_map]
  rfl
theorem pts_m (l : List TTx) : ptsOf (mL ver lock seq l) = ptsOf l := by
  have : (mL ver lock seq l).tail = mL ver lock seq l.tail := by simp [mL, List.map_tail]
  rw [ptsOf, this, ptsOf]
  generalize l.tail = r
  induction r with
  | nil => rfl
  | cons a r ih =>
    simp only [mL, List.map_cons, List.flatMap_cons] at ih ⊢
    rw [ih, pnts_m]
theorem coinB_m (x : TTx) : coinB (mT ver lock seq x) = coinB x := by
  obtain ⟨v, ins, outs, lo⟩ := x
  match ins with
  | [] => rfl
  | [i] => rfl
  | i :: j :: r => rfl
theorem valB_m (x : TTx) : valB (mT ver lock seq x) = valB x := rfl
theorem any_m (p : TTx → Bool) (hp : ∀ x, p (mT ver lock seq x) = p x) (l : List TTx) : (mL ver lock seq l).any p = l.any p := by
  rw [mL, List.any_map]
  congr 1
  funext x
  exact hp x
theorem cbB_m (l : List TTx) : cbB (mL ver lock seq l) = cbB l := by
  cases l with
  | nil => rfl
  | cons x r =>
    have h1 := any_m (ver := ver) (lock := lock) (seq := seq) coinB coinB_m r
    simp only [mL, List.map_cons] at h1 ⊢
    simp only [cbB, coinB_m, h1]
    congr 1
    obtain ⟨v, ins, outs, lo⟩ := x
    cases ins <;> rfl
theorem encI_m (l : List TIn) : ((l.map (mI seq)).flatMap encI).length = (l.flatMap encI).length := by
  induction l with
  | nil => rfl
  | cons i l ih =>
    simp only [List.map_cons, List.flatMap_cons, List.length_append, ih]
    congr 1
    simp [encI, mI, bq]
theorem encT_m (x : TTx) : (encT (mT ver lock seq x)).length = (encT x).length := by
  simp only [encT, List.length_append, bq, mT, encI_m, List.length_map]
theorem encL_m (l : List TTx) : (encL (mL ver lock seq l)).length = (encL l).length := by
  simp only [encL, List.length_append, mL, List.length_map]
  congr 1
  induction l with
  | nil => rfl
  | cons x l ih => simp only [List.map_cons, List.flatMap_cons, List.length_append, ih, encT_m]
theorem sizeB_m (l : List TTx) : sizeB (mL ver lock seq l) = sizeB l := by
  have h1 := any_m (ver := ver) (lock := lock) (seq := seq) chkB chkB_m l
  rw [sizeB, sizeB, h1, encL_m]
  simp [mL]
theorem formB_m (l : List TTx) : formB (mL ver lock seq l) = formB l := by rw [formB, formB, pts_m]
theorem againB_m (l : List TTx) : againB (mL ver lock seq l) = againB l := by rw [againB, againB, pts_m]
theorem valsB_m (l : List TTx) : (mL ver lock seq l).any valB = l.any valB := any_m valB valB_m l

/-- Is the root the first thing that is wrong? -/
def badR (l : List Nat) : Bool := match l with
  | e :: _ => decide (e = 242)
  | [] => false
theorem carried_law (l : List TTx) (h1 : badR (allR (aM l) l) = false) (h2 : badR (allR (aM (mL ver lock seq l)) (mL ver lock seq l)) = false) :
    (allR (aM l) l = [] ↔ allR (aM (mL ver lock seq l)) (mL ver lock seq l) = []) ∧ (allR (aM l) l).head? = (allR (aM (mL ver lock seq l)) (mL ver lock seq l)).head? := by
  simp only [allR, fl, sizeB_m, cbB_m, formB_m, againB_m, valsB_m] at h1 h2 ⊢
  cases c1 : sizeB l with
  | true => simp [allF, c1]
  | false =>
    cases c2 : cbB l with
    | true => simp [allF, c1, c2]
    | false =>
      cases c3 : rootB (aM l) l with
      | true => simp [allF, c1, c2, c3, badR] at h1
      | false =>
        cases c4 : rootB (aM (mL ver lock seq l)) (mL ver lock seq l) with
        | true => simp [allF, c1, c2, c4, badR] at h2
        | false => simp [allF, c1, c2, c3, c4]
end
end Go.Av

set_option linter.unusedSimpArgs false
set_option linter.unusedVariables false
namespace Go.Av
open Go.RowKit Go.Proofs
theorem i0 : intT Try.prog 0 = none := by kernel_rfl

abbrev S11 : Nat → Spec := tab [(26, s26), (27, s27), (28, s28.or s28o), (29, s29), (30, s30), (33, s33)]
theorem snd11S : TSound Try.prog S11 := ap _ (by simp [snd26, snd27, snd28.or snd28o, snd29, snd30, snd33])
theorem okO_dn {G Z X : Hp} {v : V} {sz : Nat} {es : List (List V)} (hG : hle G Z) (h : okO Z X v sz es) : okO G X v sz es := by
  rcases h with h | ⟨e, h1, h2, h3⟩
  · exact .inl h
  · exact .inr ⟨e, bI hG h1, h2, h3⟩
theorem Rows4.dn {G Z X : Hp} {fs : List (List V)} {ks : List (Option Nat)} {l : List TTx} (hG : hle G Z) (h : Rows4 Z X fs ks l) : Rows4 G X fs ks l :=
  ⟨h.lf, h.lk, fun j f k x a b c => by
    obtain ⟨r1, r2, u, r3, r4⟩ := h.row j f k x a b c
    refine ⟨r1, r2, u, r3, ?_⟩
    cases k with
    | none => exact r4
    | some e => obtain ⟨es', r5, r6, r7, r8⟩ := r4; exact ⟨es', r5, r6, bI hG r7, r8⟩, h.nd⟩

/-- The slots that live on. -/
def Live (t : T) (a b c : Nat) (cs : List V) : Prop := t 2 = vN .u32 a ∧ t 3 = vN .u32 b ∧ t 4 = vN .u32 c ∧ t 5 = .cptr cs 0 ∧ t 11 = .bool true ∧ t 10 = .bool false
theorem keep {t : T} {a b c : Nat} {cs : List V} (h2 : t 2 = vN .u32 a) (h3 : t 3 = vN .u32 b) (h4 : t 4 = vN .u32 c) (h5 : t 5 = .cptr cs 0) (h11 : t 11 = .bool true) (h10 : t 10 = .bool false) : Live t a b c cs := ⟨h2, h3, h4, h5, h11, h10⟩

section
variable {Y : aC} {t : T} {X : Hp} {h : Hdr} {v : V} {l : List TTx} {a b c : Nat}
theorem reg11_9 {K : T → Hp → Prop} {Q' : Exit → T → Hp → Prop} (hlive : Live t a b c (hdC h ++ [v])) (hoh : okHd h) (hx : isTxs X v l) (hl : okTs l)
    (hQ : ∀ t' X' c1 c2 w fs ks, Live t' a b c (hdC h ++ [v]) → t' 13 = .ptr c1 0 → t' 14 = .ptr c2 0 → hle X X' → X' c1 = some (.row (hdC (rtH (aM l)) ++ [v])) → X' c2 = some (.row (hdC h ++ [w])) → X c1 = none → X c2 = none → c1 ≠ c2 → okO X X' w 4 fs → Rows4 X X' fs ks l → K t' X') :
    wpC Try.prog S11 Y [5] 153 (regAt Try.f11 9) true (bC K Q') t X := by
  obtain ⟨k0, k1, k2, k3, k4, k5⟩ := hlive
  have hhl := aX hoh
  have hroot : okH (aM l) := rootR_ok (idsL_H _)
  have hrl := aX (rtH_ok hroot)
  have hzl := aX (rtH_ok h0_ok)
  have hv1 : one v = true := by obtain ⟨es, hv, _⟩ := hx; exact (bd hv).1
  have hones1 : ∀ v, one v = true → (hdC (rtH (aM l)) ++ [v]).all one = true := fun v hv => by rw [List.all_append, hdC_ones]; simp only [List.all_cons, hv]; rfl
  have hones2 : ∀ v, one v = true → (hdC h ++ [v]).all one = true := fun v hv => by rw [List.all_append, hdC_ones]; simp only [List.all_cons, hv]; rfl
  have last : ∀ {t' : T} {Z : Hp} {c1 c2 : Nat} {w : V} {fs : List (List V)} {ks : List (Option Nat)} {r1 r2 : List V}, Live t' a b c (hdC h ++ [v]) → (t' 13 = .ptr c1 0 ∧ t' 14 = .ptr c2 0) → hle X Z → Z c1 = some (.row r1) → Z c2 = some (.row r2) → c1 ≠ c2 → X c1 = none → X c2 = none → okO X Z w 4 fs → Rows4 X Z fs ks l → K t' (upd (upd Z c1 (some (.row (hdC (rtH (aM l)) ++ [v])))) c2 (some (.row (hdC h ++ [w])))) :=
    fun {t'} {Z} {c1} {c2} {w} {fs} {ks} {r1} {r2} hlv ht hZ y5 y6 hne x5 x6 hok hrows => by
      refine hQ t' _ c1 c2 w fs ks hlv ht.1 ht.2 (ai (ai hZ x5) x6) (by rw [ah _ _ _ hne]; exact ag _ _ _) (ag _ _ _) x5 x6 hne (bj (bj hok (fun es' h => by rw [y5] at h; cases h)) (fun es' h => by rw [ah _ _ _ (Ne.symm hne), y6] at h; cases h)) (hrows.mv fun e he => ?_)
      obtain ⟨es', h1, _⟩ := hrows.at_some he
      rw [ah _ _ _ (fun h => by subst h; rw [h1] at y6; cases y6), ah _ _ _ (fun h => by subst h; rw [h1] at y5; cases y5)]
  refine ck 7 [0, 1, 2, 3] (fun i => decide (4 ≤ i)) (hle X) (by kernel_rfl) (aj _) fun L B hBd hL => ?_
  refine ay rfl rfl rfl ⟨.cptr (hdC h ++ [v]) 68, fun H' hC' => ?_, ?_⟩
  · simp (disch := omega) only [WW, BB, ↓ab, simprocAttr, k3, bu]
    exact ⟨trivial, trivial⟩
  refine ay rfl rfl rfl ⟨v, fun H' hC' => ?_, ?_⟩
  · simp (disch := omega) only [WW, BB, ↓ab, simprocAttr, ty47, bE hhl]
    exact ⟨trivial, trivial⟩
  refine ay rfl rfl rfl ⟨.agg (hdC (rtH (aM l)) ++ [v]), fun H' hC' => ?_, ?_⟩
  · simp (disch := omega) only [WW, BB, ↓ab, simprocAttr]
    exact ⟨v, l, rfl, bX hC' hx, hl, rfl, rfl⟩
  refine ay rfl rfl rfl ⟨.agg (hdC h ++ [v]), fun H' hC' => ?_, ?_⟩
  · simp (disch := omega) only [WW, BB, ↓ab, simprocAttr, k3, ty49, agg49 hoh]
    exact ⟨trivial, trivial⟩
  refine cj ?_
  refine aV [4, 5, 6] (by kernel_rfl) (by simp) fun i0 hi0 => ?_
  rcases (by simpa using hi0 : i0 = 4 ∨ i0 = 5 ∨ i0 = 6) with rfl | rfl | rfl
  · refine ⟨by omega, bS rfl rfl rfl ⟨fun v' X'' => ∃ w fs ks, v' = .agg (hdC h ++ [w]) ∧ hle X X'' ∧ okO X X'' w 4 fs ∧ Rows4 X X'' fs ks l, ?_, ?_⟩⟩
    · simp (disch := omega) only [WW, BB, ↓ab, simprocAttr]
      exact .inr ⟨h, v, l, rfl, hoh, bX (aj X) hx, hl, fun w X2 fs ks a b c => ⟨w, fs, ks, rfl, a, b, c⟩⟩
    rintro _ Z1 ⟨w, fs, ks, rfl, hz, hok0, hrows0⟩
    have g1 := bn (aj X) hz
    have hok := okO_dn (aj X) hok0
    have hrows := Rows4.dn (aj X) hrows0
    clear hok0 hrows0
    refine ⟨g1, ?_⟩
    refine aV [5, 6] (by kernel_rfl) (by simp) fun i1 hi1 => ?_
    rcases (by simpa using hi1 : i1 = 5 ∨ i1 = 6) with rfl | rfl
    · refine ⟨by omega, bV rfl rfl rfl rfl z49 fun c1 hc1 => ?_⟩
      have x5 : X c1 = none := bI g1 hc1
      have g2 := ai (z := some (.row (hdC (rtH h0) ++ [.nils]))) g1 x5
      have y5' : upd Z1 c1 (some (.row (hdC (rtH h0) ++ [.nils]))) c1 = some (.row (hdC (rtH h0) ++ [.nils])) := ag _ _ _
      have hok' : okO X (upd Z1 c1 (some (.row (hdC (rtH h0) ++ [.nils])))) w 4 fs := bj hok (fun es' h => by rw [hc1] at h; cases h)
      have hrows' : Rows4 X (upd Z1 c1 (some (.row (hdC (rtH h0) ++ [.nils])))) fs ks l := hrows.mv fun e he => by
        obtain ⟨es', h1, _⟩ := hrows.at_some he
        rw [ah _ _ _ (aA h1 hc1)]
      generalize upd Z1 c1 (some (.row (hdC (rtH h0) ++ [.nils]))) = Z2 at *
      have y5 := y5'
      clear y5'
      clear hok hrows
      have hok := hok'
      have hrows := hrows'
      clear hok' hrows'
      refine ⟨g2, ?_⟩
      refine aV [6] (by kernel_rfl) (by simp) fun i2 hi2 => ?_
      obtain rfl : i2 = 6 := by simpa using hi2
      refine ⟨by omega, bV rfl rfl rfl rfl z49 fun c2 hc2 => ?_⟩
      have x6 : X c2 = none := bI g2 hc2
      have g3 := ai (z := some (.row (hdC (rtH h0) ++ [.nils]))) g2 x6
      have y6' : upd Z2 c2 (some (.row (hdC (rtH h0) ++ [.nils]))) c2 = some (.row (hdC (rtH h0) ++ [.nils])) := ag _ _ _
      have hne : c1 ≠ c2 := (aA y5 hc2)
      have y5' : upd Z2 c2 (some (.row (hdC (rtH h0) ++ [.nils]))) c1 = some (.row (hdC (rtH h0) ++ [.nils])) := by rw [ah _ _ _ hne]; exact y5
      have hok' : okO X (upd Z2 c2 (some (.row (hdC (rtH h0) ++ [.nils])))) w 4 fs := bj hok (fun es' h => by rw [hc2] at h; cases h)
      have hrows' : Rows4 X (upd Z2 c2 (some (.row (hdC (rtH h0) ++ [.nils])))) fs ks l := hrows.mv fun e he => by
        obtain ⟨es', h1, _⟩ := hrows.at_some he
        rw [ah _ _ _ (aA h1 hc2)]
      generalize upd Z2 c2 (some (.row (hdC (rtH h0) ++ [.nils]))) = Z3 at *
      clear y5
      have y5 := y5'
      clear y5'
      have y6 := y6'
      clear y6'
      clear hok hrows
      have hok := hok'
      have hrows := hrows'
      clear hok' hrows'
      refine ⟨g3, ?_⟩
      refine bN (hL _ _ _ (by rw [hBd]; kernel_rfl) ?_)
      refine aq (p := .ptr c1 0) (v := .agg (hdC (rtH (aM l)) ++ [v])) rfl rfl rfl (by simp (disch := omega) only [WW, BB, ↓ab, simprocAttr]) (by simp (disch := omega) only [WW, BB, ↓ab, simprocAttr]) (au (b := c1) y5 ty49 (by simp [hrl]) (hones1 v hv1) (by simp [hzl])) ?_
      refine aq (p := .ptr c2 0) (v := .agg (hdC h ++ [w])) rfl rfl rfl (by simp (disch := omega) only [WW, BB, ↓ab, simprocAttr]) (by simp (disch := omega) only [WW, BB, ↓ab, simprocAttr]) (au (b := c2) (show upd Z3 c1 _ c2 = _ by rw [ah _ _ _ (Ne.symm hne)]; exact y6) ty49 (by simp [hhl]) (hones2 w (bB hok).2) (by simp [hzl])) ?_
      refine ae ?_
      simp only [TH]
      refine last ?_ ?_ g3 y5 y6 hne x5 x6 hok hrows
      · refine keep ?_ ?_ ?_ ?_ ?_ ?_
        · simp (disch := omega) only [WW, BB, ↓ab, simprocAttr, k0]
        · simp (disch := omega) only [WW, BB, ↓ab, simprocAttr, k1]
        · simp (disch := omega) only [WW, BB, ↓ab, simprocAttr, k2]
        · simp (disch := omega) only [WW, BB, ↓ab, simprocAttr, k3]
        · simp (disch := omega) only [WW, BB, ↓ab, simprocAttr, k4]
        · simp (disch := omega) only [WW, BB, ↓ab, simprocAttr, k5]
      · exact ⟨by simp (disch := omega) only [WW, BB, ↓ab, simprocAttr], by simp (disch := omega) only [WW, BB, ↓ab, simprocAttr]⟩
    · refine ⟨by omega, bV rfl rfl rfl rfl z49 fun c2 hc2 => ?_⟩
      have x6 : X c2 = none := bI g1 hc2
      have g2 := ai (z := some (.row (hdC (rtH h0) ++ [.nils]))) g1 x6
      have y6' : upd Z1 c2 (some (.row (hdC (rtH h0) ++ [.nils]))) c2 = some (.row (hdC (rtH h0) ++ [.nils])) := ag _ _ _
      have hok' : okO X (upd Z1 c2 (some (.row (hdC (rtH h0) ++ [.nils])))) w 4 fs := bj hok (fun es' h => by rw [hc2] at h; cases h)
      have hrows' : Rows4 X (upd Z1 c2 (some (.row (hdC (rtH h0) ++ [.nils])))) fs ks l := hrows.mv fun e he => by
        obtain ⟨es', h1, _⟩ := hrows.at_some he
        rw [ah _ _ _ (aA h1 hc2)]
      generalize upd Z1 c2 (some (.row (hdC (rtH h0) ++ [.nils]))) = Z2 at *
      have y6 := y6'
      clear y6'
      clear hok hrows
      have hok := hok'
      have hrows := hrows'
      clear hok' hrows'
      refine ⟨g2, ?_⟩
      refine aV [5] (by kernel_rfl) (by simp) fun i2 hi2 => ?_
      obtain rfl : i2 = 5 := by simpa using hi2
      refine ⟨by omega, bV rfl rfl rfl rfl z49 fun c1 hc1 => ?_⟩
      have x5 : X c1 = none := bI g2 hc1
      have g3 := ai (z := some (.row (hdC (rtH h0) ++ [.nils]))) g2 x5
      have y5' : upd Z2 c1 (some (.row (hdC (rtH h0) ++ [.nils]))) c1 = some (.row (hdC (rtH h0) ++ [.nils])) := ag _ _ _
      have hne : c1 ≠ c2 := Ne.symm (aA y6 hc1)
      have y6' : upd Z2 c1 (some (.row (hdC (rtH h0) ++ [.nils]))) c2 = some (.row (hdC (rtH h0) ++ [.nils])) := by rw [ah _ _ _ (Ne.symm hne)]; exact y6
      have hok' : okO X (upd Z2 c1 (some (.row (hdC (rtH h0) ++ [.nils])))) w 4 fs := bj hok (fun es' h => by rw [hc1] at h; cases h)
      have hrows' : Rows4 X (upd Z2 c1 (some (.row (hdC (rtH h0) ++ [.nils])))) fs ks l := hrows.mv fun e he => by
        obtain ⟨es', h1, _⟩ := hrows.at_some he
        rw [ah _ _ _ (aA h1 hc1)]
      generalize upd Z2 c1 (some (.row (hdC (rtH h0) ++ [.nils]))) = Z3 at *
      clear y6
      have y6 := y6'
      clear y6'
      have y5 := y5'
      clear y5'
      clear hok hrows
      have hok := hok'
      have hrows := hrows'
      clear hok' hrows'
      refine ⟨g3, ?_⟩
      refine bN (hL _ _ _ (by rw [hBd]; kernel_rfl) ?_)
      refine aq (p := .ptr c1 0) (v := .agg (hdC (rtH (aM l)) ++ [v])) rfl rfl rfl (by simp (disch := omega) only [WW, BB, ↓ab, simprocAttr]) (by simp (disch := omega) only [WW, BB, ↓ab, simprocAttr]) (au (b := c1) y5 ty49 (by simp [hrl]) (hones1 v hv1) (by simp [hzl])) ?_
      refine aq (p := .ptr c2 0) (v := .agg (hdC h ++ [w])) rfl rfl rfl (by simp (disch := omega) only [WW, BB, ↓ab, simprocAttr]) (by simp (disch := omega) only [WW, BB, ↓ab, simprocAttr]) (au (b := c2) (show upd Z3 c1 _ c2 = _ by rw [ah _ _ _ (Ne.symm hne)]; exact y6) ty49 (by simp [hhl]) (hones2 w (bB hok).2) (by simp [hzl])) ?_
      refine ae ?_
      simp only [TH]
      refine last ?_ ?_ g3 y5 y6 hne x5 x6 hok hrows
      · refine keep ?_ ?_ ?_ ?_ ?_ ?_
        · simp (disch := omega) only [WW, BB, ↓ab, simprocAttr, k0]
        · simp (disch := omega) only [WW, BB, ↓ab, simprocAttr, k1]
        · simp (disch := omega) only [WW, BB, ↓ab, simprocAttr, k2]
        · simp (disch := omega) only [WW, BB, ↓ab, simprocAttr, k3]
        · simp (disch := omega) only [WW, BB, ↓ab, simprocAttr, k4]
        · simp (disch := omega) only [WW, BB, ↓ab, simprocAttr, k5]
      · exact ⟨by simp (disch := omega) only [WW, BB, ↓ab, simprocAttr], by simp (disch := omega) only [WW, BB, ↓ab, simprocAttr]⟩
  · refine ⟨by omega, bV rfl rfl rfl rfl z49 fun c1 hc1 => ?_⟩
    have x5 : X c1 = none := bI (aj X) hc1
    have g1 := ai (z := some (.row (hdC (rtH h0) ++ [.nils]))) (aj X) x5
    have y5' : upd X c1 (some (.row (hdC (rtH h0) ++ [.nils]))) c1 = some (.row (hdC (rtH h0) ++ [.nils])) := ag _ _ _
    generalize upd X c1 (some (.row (hdC (rtH h0) ++ [.nils]))) = Z1 at *
    have y5 := y5'
    clear y5'
    refine ⟨g1, ?_⟩
    refine aV [4, 6] (by kernel_rfl) (by simp) fun i1 hi1 => ?_
    rcases (by simpa using hi1 : i1 = 4 ∨ i1 = 6) with rfl | rfl
    · refine ⟨by omega, bS rfl rfl rfl ⟨fun v' X'' => ∃ w fs ks, v' = .agg (hdC h ++ [w]) ∧ hle Z1 X'' ∧ okO Z1 X'' w 4 fs ∧ Rows4 Z1 X'' fs ks l, ?_, ?_⟩⟩
      · simp (disch := omega) only [WW, BB, ↓ab, simprocAttr]
        exact .inr ⟨h, v, l, rfl, hoh, bX g1 hx, hl, fun w X2 fs ks a b c => ⟨w, fs, ks, rfl, a, b, c⟩⟩
      rintro _ Z2 ⟨w, fs, ks, rfl, hz, hok0, hrows0⟩
      have g2 := bn g1 hz
      have hok := okO_dn g1 hok0
      have hrows := Rows4.dn g1 hrows0
      have y5 := hz _ _ y5
      clear hok0 hrows0
      refine ⟨g2, ?_⟩
      refine aV [6] (by kernel_rfl) (by simp) fun i2 hi2 => ?_
      obtain rfl : i2 = 6 := by simpa using hi2
      refine ⟨by omega, bV rfl rfl rfl rfl z49 fun c2 hc2 => ?_⟩
      have x6 : X c2 = none := bI g2 hc2
      have g3 := ai (z := some (.row (hdC (rtH h0) ++ [.nils]))) g2 x6
      have y6' : upd Z2 c2 (some (.row (hdC (rtH h0) ++ [.nils]))) c2 = some (.row (hdC (rtH h0) ++ [.nils])) := ag _ _ _
      have hne : c1 ≠ c2 := (aA y5 hc2)
      have y5' : upd Z2 c2 (some (.row (hdC (rtH h0) ++ [.nils]))) c1 = some (.row (hdC (rtH h0) ++ [.nils])) := by rw [ah _ _ _ hne]; exact y5
      have hok' : okO X (upd Z2 c2 (some (.row (hdC (rtH h0) ++ [.nils])))) w 4 fs := bj hok (fun es' h => by rw [hc2] at h; cases h)
      have hrows' : Rows4 X (upd Z2 c2 (some (.row (hdC (rtH h0) ++ [.nils])))) fs ks l := hrows.mv fun e he => by
        obtain ⟨es', h1, _⟩ := hrows.at_some he
        rw [ah _ _ _ (aA h1 hc2)]
      generalize upd Z2 c2 (some (.row (hdC (rtH h0) ++ [.nils]))) = Z3 at *
      clear y5
      have y5 := y5'
      clear y5'
      have y6 := y6'
      clear y6'
      clear hok hrows
      have hok := hok'
      have hrows := hrows'
      clear hok' hrows'
      refine ⟨g3, ?_⟩
      refine bN (hL _ _ _ (by rw [hBd]; kernel_rfl) ?_)
      refine aq (p := .ptr c1 0) (v := .agg (hdC (rtH (aM l)) ++ [v])) rfl rfl rfl (by simp (disch := omega) only [WW, BB, ↓ab, simprocAttr]) (by simp (disch := omega) only [WW, BB, ↓ab, simprocAttr]) (au (b := c1) y5 ty49 (by simp [hrl]) (hones1 v hv1) (by simp [hzl])) ?_
      refine aq (p := .ptr c2 0) (v := .agg (hdC h ++ [w])) rfl rfl rfl (by simp (disch := omega) only [WW, BB, ↓ab, simprocAttr]) (by simp (disch := omega) only [WW, BB, ↓ab, simprocAttr]) (au (b := c2) (show upd Z3 c1 _ c2 = _ by rw [ah _ _ _ (Ne.symm hne)]; exact y6) ty49 (by simp [hhl]) (hones2 w (bB hok).2) (by simp [hzl])) ?_
      refine ae ?_
      simp only [TH]
      refine last ?_ ?_ g3 y5 y6 hne x5 x6 hok hrows
      · refine keep ?_ ?_ ?_ ?_ ?_ ?_
        · simp (disch := omega) only [WW, BB, ↓ab, simprocAttr, k0]
        · simp (disch := omega) only [WW, BB, ↓ab, simprocAttr, k1]
        · simp (disch := omega) only [WW, BB, ↓ab, simprocAttr, k2]
        · simp (disch := omega) only [WW, BB, ↓ab, simprocAttr, k3]
        · simp (disch := omega) only [WW, BB, ↓ab, simprocAttr, k4]
        · simp (disch := omega) only [WW, BB, ↓ab, simprocAttr, k5]
      · exact ⟨by simp (disch := omega) only [WW, BB, ↓ab, simprocAttr], by simp (disch := omega) only [WW, BB, ↓ab, simprocAttr]⟩
    · refine ⟨by omega, bV rfl rfl rfl rfl z49 fun c2 hc2 => ?_⟩
      have x6 : X c2 = none := bI g1 hc2
      have g2 := ai (z := some (.row (hdC (rtH h0) ++ [.nils]))) g1 x6
      have y6' : upd Z1 c2 (some (.row (hdC (rtH h0) ++ [.nils]))) c2 = some (.row (hdC (rtH h0) ++ [.nils])) := ag _ _ _
      have hne : c1 ≠ c2 := (aA y5 hc2)
      have y5' : upd Z1 c2 (some (.row (hdC (rtH h0) ++ [.nils]))) c1 = some (.row (hdC (rtH h0) ++ [.nils])) := by rw [ah _ _ _ hne]; exact y5
      generalize upd Z1 c2 (some (.row (hdC (rtH h0) ++ [.nils]))) = Z2 at *
      clear y5
      have y5 := y5'
      clear y5'
      have y6 := y6'
      clear y6'
      refine ⟨g2, ?_⟩
      refine aV [4] (by kernel_rfl) (by simp) fun i2 hi2 => ?_
      obtain rfl : i2 = 4 := by simpa using hi2
      refine ⟨by omega, bS rfl rfl rfl ⟨fun v' X'' => ∃ w fs ks, v' = .agg (hdC h ++ [w]) ∧ hle Z2 X'' ∧ okO Z2 X'' w 4 fs ∧ Rows4 Z2 X'' fs ks l, ?_, ?_⟩⟩
      · simp (disch := omega) only [WW, BB, ↓ab, simprocAttr]
        exact .inr ⟨h, v, l, rfl, hoh, bX g2 hx, hl, fun w X2 fs ks a b c => ⟨w, fs, ks, rfl, a, b, c⟩⟩
      rintro _ Z3 ⟨w, fs, ks, rfl, hz, hok0, hrows0⟩
      have g3 := bn g2 hz
      have hok := okO_dn g2 hok0
      have hrows := Rows4.dn g2 hrows0
      have y5 := hz _ _ y5
      have y6 := hz _ _ y6
      clear hok0 hrows0
      refine ⟨g3, ?_⟩
      refine bN (hL _ _ _ (by rw [hBd]; kernel_rfl) ?_)
      refine aq (p := .ptr c1 0) (v := .agg (hdC (rtH (aM l)) ++ [v])) rfl rfl rfl (by simp (disch := omega) only [WW, BB, ↓ab, simprocAttr]) (by simp (disch := omega) only [WW, BB, ↓ab, simprocAttr]) (au (b := c1) y5 ty49 (by simp [hrl]) (hones1 v hv1) (by simp [hzl])) ?_
      refine aq (p := .ptr c2 0) (v := .agg (hdC h ++ [w])) rfl rfl rfl (by simp (disch := omega) only [WW, BB, ↓ab, simprocAttr]) (by simp (disch := omega) only [WW, BB, ↓ab, simprocAttr]) (au (b := c2) (show upd Z3 c1 _ c2 = _ by rw [ah _ _ _ (Ne.symm hne)]; exact y6) ty49 (by simp [hhl]) (hones2 w (bB hok).2) (by simp [hzl])) ?_
      refine ae ?_
      simp only [TH]
      refine last ?_ ?_ g3 y5 y6 hne x5 x6 hok hrows
      · refine keep ?_ ?_ ?_ ?_ ?_ ?_
        · simp (disch := omega) only [WW, BB, ↓ab, simprocAttr, k0]
        · simp (disch := omega) only [WW, BB, ↓ab, simprocAttr, k1]
        · simp (disch := omega) only [WW, BB, ↓ab, simprocAttr, k2]
        · simp (disch := omega) only [WW, BB, ↓ab, simprocAttr, k3]
        · simp (disch := omega) only [WW, BB, ↓ab, simprocAttr, k4]
        · simp (disch := omega) only [WW, BB, ↓ab, simprocAttr, k5]
      · exact ⟨by simp (disch := omega) only [WW, BB, ↓ab, simprocAttr], by simp (disch := omega) only [WW, BB, ↓ab, simprocAttr]⟩
  · refine ⟨by omega, bV rfl rfl rfl rfl z49 fun c2 hc2 => ?_⟩
    have x6 : X c2 = none := bI (aj X) hc2
    have g1 := ai (z := some (.row (hdC (rtH h0) ++ [.nils]))) (aj X) x6
    have y6' : upd X c2 (some (.row (hdC (rtH h0) ++ [.nils]))) c2 = some (.row (hdC (rtH h0) ++ [.nils])) := ag _ _ _
    generalize upd X c2 (some (.row (hdC (rtH h0) ++ [.nils]))) = Z1 at *
    have y6 := y6'
    clear y6'
    refine ⟨g1, ?_⟩
    refine aV [4, 5] (by kernel_rfl) (by simp) fun i1 hi1 => ?_
    rcases (by simpa using hi1 : i1 = 4 ∨ i1 = 5) with rfl | rfl
    · refine ⟨by omega, bS rfl rfl rfl ⟨fun v' X'' => ∃ w fs ks, v' = .agg (hdC h ++ [w]) ∧ hle Z1 X'' ∧ okO Z1 X'' w 4 fs ∧ Rows4 Z1 X'' fs ks l, ?_, ?_⟩⟩
      · simp (disch := omega) only [WW, BB, ↓ab, simprocAttr]
        exact .inr ⟨h, v, l, rfl, hoh, bX g1 hx, hl, fun w X2 fs ks a b c => ⟨w, fs, ks, rfl, a, b, c⟩⟩
      rintro _ Z2 ⟨w, fs, ks, rfl, hz, hok0, hrows0⟩
      have g2 := bn g1 hz
      have hok := okO_dn g1 hok0
      have hrows := Rows4.dn g1 hrows0
      have y6 := hz _ _ y6
      clear hok0 hrows0
      refine ⟨g2, ?_⟩
      refine aV [5] (by kernel_rfl) (by simp) fun i2 hi2 => ?_
      obtain rfl : i2 = 5 := by simpa using hi2
      refine ⟨by omega, bV rfl rfl rfl rfl z49 fun c1 hc1 => ?_⟩
      have x5 : X c1 = none := bI g2 hc1
      have g3 := ai (z := some (.row (hdC (rtH h0) ++ [.nils]))) g2 x5
      have y5' : upd Z2 c1 (some (.row (hdC (rtH h0) ++ [.nils]))) c1 = some (.row (hdC (rtH h0) ++ [.nils])) := ag _ _ _
      have hne : c1 ≠ c2 := Ne.symm (aA y6 hc1)
      have y6' : upd Z2 c1 (some (.row (hdC (rtH h0) ++ [.nils]))) c2 = some (.row (hdC (rtH h0) ++ [.nils])) := by rw [ah _ _ _ (Ne.symm hne)]; exact y6
      have hok' : okO X (upd Z2 c1 (some (.row (hdC (rtH h0) ++ [.nils])))) w 4 fs := bj hok (fun es' h => by rw [hc1] at h; cases h)
      have hrows' : Rows4 X (upd Z2 c1 (some (.row (hdC (rtH h0) ++ [.nils])))) fs ks l := hrows.mv fun e he => by
        obtain ⟨es', h1, _⟩ := hrows.at_some he
        rw [ah _ _ _ (aA h1 hc1)]
      generalize upd Z2 c1 (some (.row (hdC (rtH h0) ++ [.nils]))) = Z3 at *
      clear y6
      have y6 := y6'
      clear y6'
      have y5 := y5'
      clear y5'
      clear hok hrows
      have hok := hok'
      have hrows := hrows'
      clear hok' hrows'
      refine ⟨g3, ?_⟩
      refine bN (hL _ _ _ (by rw [hBd]; kernel_rfl) ?_)
      refine aq (p := .ptr c1 0) (v := .agg (hdC (rtH (aM l)) ++ [v])) rfl rfl rfl (by simp (disch := omega) only [WW, BB, ↓ab, simprocAttr]) (by simp (disch := omega) only [WW, BB, ↓ab, simprocAttr]) (au (b := c1) y5 ty49 (by simp [hrl]) (hones1 v hv1) (by simp [hzl])) ?_
      refine aq (p := .ptr c2 0) (v := .agg (hdC h ++ [w])) rfl rfl rfl (by simp (disch := omega) only [WW, BB, ↓ab, simprocAttr]) (by simp (disch := omega) only [WW, BB, ↓ab, simprocAttr]) (au (b := c2) (show upd Z3 c1 _ c2 = _ by rw [ah _ _ _ (Ne.symm hne)]; exact y6) ty49 (by simp [hhl]) (hones2 w (bB hok).2) (by simp [hzl])) ?_
      refine ae ?_
      simp only [TH]
      refine last ?_ ?_ g3 y5 y6 hne x5 x6 hok hrows
      · refine keep ?_ ?_ ?_ ?_ ?_ ?_
        · simp (disch := omega) only [WW, BB, ↓ab, simprocAttr, k0]
        · simp (disch := omega) only [WW, BB, ↓ab, simprocAttr, k1]
        · simp (disch := omega) only [WW, BB, ↓ab, simprocAttr, k2]
        · simp (disch := omega) only [WW, BB, ↓ab, simprocAttr, k3]
        · simp (disch := omega) only [WW, BB, ↓ab, simprocAttr, k4]
        · simp (disch := omega) only [WW, BB, ↓ab, simprocAttr, k5]
      · exact ⟨by simp (disch := omega) only [WW, BB, ↓ab, simprocAttr], by simp (disch := omega) only [WW, BB, ↓ab, simprocAttr]⟩
    · refine ⟨by omega, bV rfl rfl rfl rfl z49 fun c1 hc1 => ?_⟩
      have x5 : X c1 = none := bI g1 hc1
      have g2 := ai (z := some (.row (hdC (rtH h0) ++ [.nils]))) g1 x5
      have y5' : upd Z1 c1 (some (.row (hdC (rtH h0) ++ [.nils]))) c1 = some (.row (hdC (rtH h0) ++ [.nils])) := ag _ _ _
      have hne : c1 ≠ c2 := Ne.symm (aA y6 hc1)
      have y6' : upd Z1 c1 (some (.row (hdC (rtH h0) ++ [.nils]))) c2 = some (.row (hdC (rtH h0) ++ [.nils])) := by rw [ah _ _ _ (Ne.symm hne)]; exact y6
      generalize upd Z1 c1 (some (.row (hdC (rtH h0) ++ [.nils]))) = Z2 at *
      clear y6
      have y6 := y6'
      clear y6'
      have y5 := y5'
      clear y5'
      refine ⟨g2, ?_⟩
      refine aV [4] (by kernel_rfl) (by simp) fun i2 hi2 => ?_
      obtain rfl : i2 = 4 := by simpa using hi2
      refine ⟨by omega, bS rfl rfl rfl ⟨fun v' X'' => ∃ w fs ks, v' = .agg (hdC h ++ [w]) ∧ hle Z2 X'' ∧ okO Z2 X'' w 4 fs ∧ Rows4 Z2 X'' fs ks l, ?_, ?_⟩⟩
      · simp (disch := omega) only [WW, BB, ↓ab, simprocAttr]
        exact .inr ⟨h, v, l, rfl, hoh, bX g2 hx, hl, fun w X2 fs ks a b c => ⟨w, fs, ks, rfl, a, b, c⟩⟩
      rintro _ Z3 ⟨w, fs, ks, rfl, hz, hok0, hrows0⟩
      have g3 := bn g2 hz
      have hok := okO_dn g2 hok0
      have hrows := Rows4.dn g2 hrows0
      have y5 := hz _ _ y5
      have y6 := hz _ _ y6
      clear hok0 hrows0
      refine ⟨g3, ?_⟩
      refine bN (hL _ _ _ (by rw [hBd]; kernel_rfl) ?_)
      refine aq (p := .ptr c1 0) (v := .agg (hdC (rtH (aM l)) ++ [v])) rfl rfl rfl (by simp (disch := omega) only [WW, BB, ↓ab, simprocAttr]) (by simp (disch := omega) only [WW, BB, ↓ab, simprocAttr]) (au (b := c1) y5 ty49 (by simp [hrl]) (hones1 v hv1) (by simp [hzl])) ?_
      refine aq (p := .ptr c2 0) (v := .agg (hdC h ++ [w])) rfl rfl rfl (by simp (disch := omega) only [WW, BB, ↓ab, simprocAttr]) (by simp (disch := omega) only [WW, BB, ↓ab, simprocAttr]) (au (b := c2) (show upd Z3 c1 _ c2 = _ by rw [ah _ _ _ (Ne.symm hne)]; exact y6) ty49 (by simp [hhl]) (hones2 w (bB hok).2) (by simp [hzl])) ?_
      refine ae ?_
      simp only [TH]
      refine last ?_ ?_ g3 y5 y6 hne x5 x6 hok hrows
      · refine keep ?_ ?_ ?_ ?_ ?_ ?_
        · simp (disch := omega) only [WW, BB, ↓ab, simprocAttr, k0]
        · simp (disch := omega) only [WW, BB, ↓ab, simprocAttr, k1]
        · simp (disch := omega) only [WW, BB, ↓ab, simprocAttr, k2]
        · simp (disch := omega) only [WW, BB, ↓ab, simprocAttr, k3]
        · simp (disch := omega) only [WW, BB, ↓ab, simprocAttr, k4]
        · simp (disch := omega) only [WW, BB, ↓ab, simprocAttr, k5]
      · exact ⟨by simp (disch := omega) only [WW, BB, ↓ab, simprocAttr], by simp (disch := omega) only [WW, BB, ↓ab, simprocAttr]⟩
end
end Go.Av

set_option linter.unusedSimpArgs false
set_option linter.unusedVariables false
namespace Go.Av
open Go.RowKit Go.Proofs

theorem splice_set (e : List V) (off : Nat) (x : V) (h : off < e.length) : br e off [x] = e.set off x := by
  simp only [br, List.length_cons, List.length_nil]
  rw [List.set_eq_take_append_cons_drop, if_pos h]
  rfl
theorem store_ecell {P : Program} {H : Hp} {b i off sz ty q : Nat} {es : List (List V)} {f : List V} {x : V} (hb : H b = some (.arr sz es)) (he : es[i]? = some f) (ht : tyT P ty = some (false, 1)) (hc : aW x = some [x]) (h1 : one x = true) (ho : off < f.length) :
    storeV P H ty (.eptr b i off sz) x = some (upd H b (some (.arr sz (es.set i (f.set off x))))) := by
  simp only [storeV, ht, hc, hb, he, Option.bind_some]
  rw [if_pos ⟨rfl, by simp [h1]⟩, if_pos trivial, if_pos (by simp; omega), splice_set _ _ _ ho]
theorem load_ecell {P : Program} {H : Hp} {b i off sz ty q : Nat} {es : List (List V)} {f : List V} {x : V} (hb : H b = some (.arr sz es)) (he : es[i]? = some f) (ht : tyT P ty = some (false, q)) (hx : f[off]? = some x) :
    ((aK H (.eptr b i off sz)).bind fun y => ldc (tyT P ty) y.1 y.2) = some x := by
  simp only [aK, hb, if_true, he, Option.map_some, Option.bind_some, ht, ldc, hx]
theorem ix_osl {t b n sz i : Nat} {full : Bool} (ha : arrT Try.prog t = none) (hs : sliT Try.prog t = some sz) (hi : i < n) : bw Try.prog t (.osl b 0 n sz full) (vN .i64 i) = some (.eptr b i 0 sz) := by
  simp only [bw, ha, hs, Option.bind_some, if_true, idxOf_N i hi, Option.map_some, Nat.zero_add]

section
variable {Y : aC} {t : T} {Z : Hp} {a b c e0 i : Nat} {cs : List V} {fs : List (List V)} {ver lock : Nat} {w u x14 : V}

/-- Version and lock time. -/
theorem reg11_14 {K : T → Hp → Prop} {Q' : Exit → T → Hp → Prop} (q2 : t 2 = vN .u32 a) (q4 : t 4 = vN .u32 c) (q16 : t 16 = .eptr e0 i 0 4) (hz : Z e0 = some (.arr 4 fs)) (hf : fs[i]? = some [vN .u32 ver, w, u, vN .u32 lock])
    (hQ : ∀ t', (∀ j, j < 20 → j ≠ 17 → t' j = t j) → (∀ j, j = 49 ∨ j = 50 → t' j = t j) → K t' (upd Z e0 (some (.arr 4 (fs.set i [vN .u32 (xr ver a), w, u, vN .u32 (xr lock c)]))))) :
    wpC Try.prog S11 Y [5] 153 (regAt Try.f11 14) true (bC K Q') t Z := by
  have hil : i < fs.length := (List.getElem?_eq_some_iff.1 hf).1
  generalize hZ' : upd Z e0 (some (.arr 4 (fs.set i [vN .u32 (xr ver a), w, u, vN .u32 lock]))) = Z'
  have hz' : Z' e0 = some (.arr 4 (fs.set i [vN .u32 (xr ver a), w, u, vN .u32 lock])) := by rw [← hZ']; exact ag _ _ _
  have hf' : (fs.set i [vN .u32 (xr ver a), w, u, vN .u32 lock])[i]? = some [vN .u32 (xr ver a), w, u, vN .u32 lock] := by rw [List.getElem?_set_self hil]
  refine ck 17 [0, 1, 2, 3, 4, 6, 8, 9, 10, 11, 12, 13] (fun i => decide (i = 5 ∨ i = 7 ∨ i = 14 ∨ i = 15 ∨ i = 16)) (fun H' => H' = Z ∨ H' = Z') (by kernel_rfl) (.inl rfl) fun L B hBd hL => ?_
  refine ay rfl rfl rfl ⟨.eptr e0 i 0 4, fun H' hC' => ?_, ?_⟩
  · simp (disch := omega) only [WW, BB, ↓ab, simprocAttr, q16]
    exact ⟨trivial, trivial⟩
  refine ay rfl rfl rfl ⟨.eptr e0 i 0 4, fun H' hC' => ?_, ?_⟩
  · simp (disch := omega) only [WW, BB, ↓ab, simprocAttr, q16]
    exact ⟨trivial, trivial⟩
  refine ay rfl rfl rfl ⟨.eptr e0 i 0 4, fun H' hC' => ?_, ?_⟩
  · simp (disch := omega) only [WW, BB, ↓ab, simprocAttr, q16]
    exact ⟨trivial, trivial⟩
  refine ay rfl rfl rfl ⟨.eptr e0 i 0 4, fun H' hC' => ?_, ?_⟩
  · simp (disch := omega) only [WW, BB, ↓ab, simprocAttr]
    exact ⟨trivial, trivial⟩
  refine ay rfl rfl rfl ⟨.eptr e0 i 0 4, fun H' hC' => ?_, ?_⟩
  · simp (disch := omega) only [WW, BB, ↓ab, simprocAttr, fl56_0]
    exact ⟨trivial, trivial⟩
  refine ay rfl rfl rfl ⟨vN .u32 a, fun H' hC' => ?_, ?_⟩
  · simp (disch := omega) only [WW, BB, ↓ab, simprocAttr, q2]
    exact ⟨trivial, trivial⟩
  refine ay rfl rfl rfl ⟨.eptr e0 i 0 4, fun H' hC' => ?_, ?_⟩
  · simp (disch := omega) only [WW, BB, ↓ab, simprocAttr, q16]
    exact ⟨trivial, trivial⟩
  refine ay rfl rfl rfl ⟨.eptr e0 i 0 4, fun H' hC' => ?_, ?_⟩
  · simp (disch := omega) only [WW, BB, ↓ab, simprocAttr]
    exact ⟨trivial, trivial⟩
  refine ay rfl rfl rfl ⟨.eptr e0 i 3 4, fun H' hC' => ?_, ?_⟩
  · simp (disch := omega) only [WW, BB, ↓ab, simprocAttr, fl56_3]
    exact ⟨trivial, trivial⟩
  refine ay rfl rfl rfl ⟨vN .u32 lock, fun H' hC' => ?_, ?_⟩
  · rcases hC' with rfl | rfl
    · simp (disch := omega) only [WW, BB, ↓ab, simprocAttr, load_ecell (P := Try.prog) (off := 3) hz hf ty44 rfl]
      exact ⟨trivial, trivial⟩
    · simp (disch := omega) only [WW, BB, ↓ab, simprocAttr, load_ecell (P := Try.prog) (off := 3) hz' hf' ty44 rfl]
      exact ⟨trivial, trivial⟩
  refine ay rfl rfl rfl ⟨vN .u32 c, fun H' hC' => ?_, ?_⟩
  · simp (disch := omega) only [WW, BB, ↓ab, simprocAttr, q4]
    exact ⟨trivial, trivial⟩
  refine ay rfl rfl rfl ⟨vN .u32 (xr lock c), fun H' hC' => ?_, ?_⟩
  · simp (disch := omega) only [WW, BB, ↓ab, simprocAttr, u32_xor]
    exact ⟨rfl, trivial⟩
  refine cj (aV [5] (by kernel_rfl) (by simp) fun j hj => ?_)
  obtain rfl : j = 5 := by simpa using hj
  refine ⟨by omega, bS rfl rfl rfl ⟨fun v H' => v = vN .u32 ver ∧ H' = Z, ?_, ?_⟩⟩
  · simp (disch := omega) only [WW, BB, ↓ab, simprocAttr, load_ecell (P := Try.prog) (off := 0) hz hf ty44 rfl]
    exact ⟨trivial, trivial⟩
  rintro _ H' ⟨rfl, hH⟩
  rw [hH]
  clear hH H'
  refine ⟨.inl rfl, aV [7] (by kernel_rfl) (by simp) fun j hj => ?_⟩
  obtain rfl : j = 7 := by simpa using hj
  refine ⟨by omega, bS rfl rfl rfl ⟨fun v H' => v = vN .u32 (xr ver a) ∧ H' = Z, ?_, ?_⟩⟩
  · simp (disch := omega) only [WW, BB, ↓ab, simprocAttr, u32_xor]
    exact ⟨rfl, trivial⟩
  rintro _ H' ⟨rfl, hH⟩
  rw [hH]
  clear hH H'
  refine ⟨.inl rfl, aV [14] (by kernel_rfl) (by simp) fun j hj => ?_⟩
  obtain rfl : j = 14 := by simpa using hj
  refine ⟨by omega, bS rfl rfl rfl ⟨fun v H' => v = .eptr e0 i 0 4 ∧ H' = Z, ?_, ?_⟩⟩
  · simp (disch := omega) only [WW, BB, ↓ab, simprocAttr]
    exact ⟨trivial, trivial⟩
  rintro _ H' ⟨rfl, hH⟩
  rw [hH]
  clear hH H'
  refine ⟨.inl rfl, aV [15] (by kernel_rfl) (by simp) fun j hj => ?_⟩
  obtain rfl : j = 15 := by simpa using hj
  refine ⟨by omega, bS rfl rfl rfl ⟨fun v H' => v = .eptr e0 i 0 4 ∧ H' = Z, ?_, ?_⟩⟩
  · simp (disch := omega) only [WW, BB, ↓ab, simprocAttr, fl56_0]
    exact ⟨trivial, trivial⟩
  rintro _ H' ⟨rfl, hH⟩
  rw [hH]
  clear hH H'
  refine ⟨.inl rfl, aV [16] (by kernel_rfl) (by simp) fun j hj => ?_⟩
  obtain rfl : j = 16 := by simpa using hj
  refine ⟨by omega, bS rfl rfl rfl ⟨fun v H' => v = .junk ∧ H' = Z', ?_, ?_⟩⟩
  · refine ⟨Z', ?_, rfl, rfl⟩
    have hs := store_ecell (P := Try.prog) (q := 1) (off := 0) (x := vN .u32 (xr ver a)) hz hf ty44 rfl rfl (by simp)
    simp only [List.set_cons_zero] at hs
    rw [hZ'] at hs
    simp (disch := omega) only [WW, BB, ↓ab, simprocAttr, hs]
  rintro _ H' ⟨rfl, hH⟩
  rw [hH]
  clear hH H'
  refine ⟨.inr rfl, bN (hL _ _ _ (by rw [hBd]; kernel_rfl) ?_)⟩
  repeat (refine aa rfl fun K hK => ?_; simp (disch := omega) only [WW, BB, ↓ab, simprocAttr, fl56_3]; refine hK _ _ ?_; clear hK)
  have hs := store_ecell (P := Try.prog) (q := 1) (off := 3) (x := vN .u32 (xr lock c)) hz' hf' ty44 rfl rfl (by simp)
  simp only [List.set_cons_zero, List.set_cons_succ, List.set_set] at hs
  refine aq (p := .eptr e0 i 3 4) (v := vN .u32 (xr lock c)) rfl rfl rfl (by simp (disch := omega) only [WW, BB, ↓ab, simprocAttr]) (by simp (disch := omega) only [WW, BB, ↓ab, simprocAttr]) hs ?_
  refine ae ?_
  simp only [TH]
  rw [← hZ', aD]
  refine hQ _ (fun j h1 h2 => ?_) (fun j h1 => ?_)
  · have : j ≠ 57 ∧ j ≠ 58 ∧ j ≠ 59 ∧ j ≠ 60 ∧ j ≠ 61 ∧ j ≠ 62 ∧ j ≠ 63 ∧ j ≠ 64 ∧ j ≠ 65 ∧ j ≠ 66 ∧ j ≠ 67 ∧ j ≠ 68 ∧ j ≠ 69 ∧ j ≠ 70 ∧ j ≠ 71 ∧ j ≠ 72 ∧ j ≠ 73 ∧ j ≠ 74 := by omega
    simp only [WW, ↓ab, this, ↓reduceIte, Nat.reduceLT]
  · have : j ≠ 57 ∧ j ≠ 58 ∧ j ≠ 59 ∧ j ≠ 60 ∧ j ≠ 61 ∧ j ≠ 62 ∧ j ≠ 63 ∧ j ≠ 64 ∧ j ≠ 65 ∧ j ≠ 66 ∧ j ≠ 67 ∧ j ≠ 68 ∧ j ≠ 69 ∧ j ≠ 70 ∧ j ≠ 71 ∧ j ≠ 72 ∧ j ≠ 73 ∧ j ≠ 74 := by omega
    simp only [WW, ↓ab, this, ↓reduceIte, Nat.reduceLT]
end
end Go.Av

set_option linter.unusedSimpArgs false
set_option linter.unusedVariables false
namespace Go.Av
open Go.RowKit Go.Proofs

theorem mix_get {α : Type} {g : α → α} {l : List α} {k : Nat} {o : α} (h : l[k]? = some o) : ((l.take k).map g ++ l.drop k)[k]? = some o := by
  have hk := (List.getElem?_eq_some_iff.1 h).1
  rw [List.getElem?_append_right (by simp; omega)]
  simp only [List.length_map, List.length_take, Nat.min_eq_left (Nat.le_of_lt hk), Nat.sub_self, List.getElem?_drop, Nat.add_zero, h]
theorem mix_set {α : Type} {g : α → α} {l : List α} {k : Nat} {o : α} (h : l[k]? = some o) : ((l.take k).map g ++ l.drop k).set k (g o) = (l.take (k + 1)).map g ++ l.drop (k + 1) := by
  have hk := (List.getElem?_eq_some_iff.1 h).1
  rw [List.set_append_right _ _ (by simp; omega), List.take_succ_eq_append_getElem hk, List.drop_eq_getElem_cons hk]
  simp only [List.length_map, List.length_take, Nat.min_eq_left (Nat.le_of_lt hk), Nat.sub_self, List.set_cons_zero, List.map_append, List.map_cons, List.map_nil, List.append_assoc, List.cons_append, List.nil_append, (List.getElem?_eq_some_iff.1 h).2]
theorem upd_at {H : Hp} {e : Nat} {x : Option Blk} (h : H e = x) : upd H e x = H := by
  funext j
  by_cases c : j = e
  · subst c; rw [ag, h]
  · rw [ah _ _ _ c]
theorem mix_len {α : Type} {g : α → α} {l : List α} {k : Nat} : ((l.take k).map g ++ l.drop k).length = l.length := by simp; omega
theorem Each.set {α β : Type} {R : α → β → Prop} {xs : List α} {bs : List β} (h : Each R xs bs) {k : Nat} {x : α} {b : β} (hx : R x b) : Each R (xs.set k x) (bs.set k b) := by
  refine ⟨by simp [h.1], fun i a c ha hc => ?_⟩
  rw [List.getElem?_set] at ha hc
  split at ha
  · rename_i e
    subst e
    rw [if_pos rfl] at hc
    split at ha
    · split at hc
      · cases ha; cases hc; exact hx
      · cases hc
    · cases ha
  · rename_i e
    rw [if_neg e] at hc
    exact h.2 i a c ha hc
/-- An input with another sequence number. -/
theorem isInV_seq {f : List V} {o : TIn} {b : Nat} (h : isInV f o) : f.length = 35 ∧ f[34]? = some (vN .u32 o.seq) ∧ isInV (f.set 34 (vN .u32 (xr o.seq b))) (mI b o) := by
  obtain ⟨h1, h2⟩ := h
  obtain ⟨s, rfl, _, _, hok, _⟩ := h2 (fun _ => none)
  have hl : (nR .u8 o.tx).length = 32 := by rw [ar, hok.1]
  have hset : (nR .u8 o.tx ++ [vN .u32 o.n, s, vN .u32 o.seq]).set 34 (vN .u32 (xr o.seq b)) = nR .u8 o.tx ++ [vN .u32 o.n, s, vN .u32 (xr o.seq b)] := by
    rw [List.set_append_right _ _ (by omega), hl]
    rfl
  refine ⟨by simp [hl], by rw [List.getElem?_append_right (by omega), hl]; rfl, ?_, fun H => ?_⟩
  · rw [hset]
    simp only [bo, List.all_append, List.all_cons, List.all_nil, Bool.and_true, Bool.and_eq_true] at h1 ⊢
    exact ⟨h1.1, h1.2.1, h1.2.2.1, rfl⟩
  · obtain ⟨s', e, r1, r2, r3, r4, r5, r6⟩ := h2 H
    obtain rfl : s = s' := by
      have := List.append_cancel_left e
      simpa using this
    rw [hset]
    exact ⟨s, rfl, r1, r2, r3, r4, Nat.mod_lt _ (by decide), r6⟩

section
variable {Y : aC} {Q : Exit → T → Hp → Prop} {t : T} {Z : Hp} {b e0 e i : Nat} {fs es : List (List V)} {x0 u x3 : V} {ins : List TIn}
theorem l11i (q3 : t 3 = vN .u32 b) (q16 : t 16 = .eptr e0 i 0 4) (q79 : t 79 = vN .i64 ins.length) (q80 : t 80 = vN .i64 0) (hz : Z e0 = some (.arr 4 fs)) (hf : fs[i]? = some [x0, .osl e 0 es.length 35 false, u, x3]) (he : Z e = some (.arr 35 es)) (hes : Each isInV es ins) (hl : ins.length ≤ 60)
    (hQ : ∀ t' es', (∀ j, j < 17 ∨ j = 49 ∨ j = 50 → t' j = t j) → Each isInV es' (ins.map (mI b)) → es'.length = es.length → Q (.exit 2) t' (upd Z e (some (.arr 35 es')))) :
    wpC Try.prog S11 Y [5] 153 (aU Try.f11 1) true Q t Z := by
  have hne : e0 ≠ e := fun h => by subst h; rw [hz] at he; cases he
  refine aO (fun m t' X => ∃ k es', m = ins.length - k ∧ k ≤ ins.length ∧ (∀ j, j < 17 ∨ j = 49 ∨ j = 50 ∨ j = 79 → t' j = t j) ∧ t' 80 = vN .i64 k ∧ X = upd Z e (some (.arr 35 es')) ∧ Each isInV es' ((ins.take k).map (mI b) ++ ins.drop k) ∧ es'.length = es.length) ins.length
    ⟨0, es, rfl, by omega, fun _ _ => rfl, q80, (upd_at he).symm, by simpa using hes, rfl⟩ fun KL m t' X hI hKL => ?_
  obtain ⟨k, es', rfl, hk, hkp, q80, hX, hes', hel⟩ := hI
  have p3 : t' 3 = vN .u32 b := by rw [hkp 3 (by omega)]; exact q3
  have p16 : t' 16 = .eptr e0 i 0 4 := by rw [hkp 16 (by omega)]; exact q16
  have p79 : t' 79 = vN .i64 ins.length := by rw [hkp 79 (by omega)]; exact q79
  have xe : X e = some (.arr 35 es') := by rw [hX]; exact ag _ _ _
  have x0' : X e0 = some (.arr 4 fs) := by rw [hX, ah _ _ _ hne]; exact hz
  repeat (first
    | (refine aa rfl fun K hK => ?_; simp (disch := omega) only [WW, BB, ↓ab, simprocAttr, q80, p79]; refine hK _ _ ?_; clear hK) | (refine ae ?_; simp only [TH]; (((repeat ((fail_if_success refine hS _ _ ?_); clear hS)); refine hS _ _ ?_); clear hS; try clear hF)) | refine af fun K hS hF => ?_ | refine ac rfl ?_)
  refine aH rfl (fun hd => ?_) (fun hd => ?_)
  · (refine am ?_; simp only [TH]; ((repeat ((fail_if_success refine hS _ _ ?_); clear hS)); refine hS _ _ ?_); clear hS; try clear hF)
    obtain ⟨o, ho⟩ : ∃ o, ins[k]? = some o := ⟨_, List.getElem?_eq_getElem hd⟩
    obtain ⟨f, hf', hio⟩ := hes'.get (mix_get (g := mI b) ho)
    obtain ⟨s1, s2, s3⟩ := isInV_seq (b := b) hio
    have hke : k < es.length := by rw [hes.1]; exact hd
    have hf2 : ∀ H : Hp, H e0 = some (.arr 4 fs) → ((aK H (.eptr e0 i 1 4)).bind fun y => ldc (tyT Try.prog 53) y.1 y.2) = some (.osl e 0 es.length 35 false) := fun H h => load_ecell h hf ty53 rfl
    have hw : ((aK X (.eptr e k 34 35)).bind fun y => ldc (tyT Try.prog 44) y.1 y.2) = some (vN .u32 o.seq) := load_ecell xe hf' ty44 s2
    repeat (first
    | (refine aa rfl fun K hK => ?_; simp (disch := omega) only [WW, BB, ↓ab, simprocAttr, q80]; refine hK _ _ ?_; clear hK) | (refine ae ?_; simp only [TH]; (((repeat ((fail_if_success refine hS _ _ ?_); clear hS)); refine hS _ _ ?_); clear hS; try clear hF)) | refine af fun K hS hF => ?_ | refine ac rfl ?_)
    refine bJ 17 (by kernel_rfl) rfl rfl ?_
    repeat (first
    | ((first | refine aa rfl fun K hK => ?_ | refine aQ rfl fun K hK => ?_); simp (disch := omega) only [WW, BB, ↓ab, simprocAttr, p3, p16, bA, hf2 X x0', ix_osl ar53 sl53 hke, fl68_2, hw, u32_xor]; refine ⟨_, ⟨rfl, by first | rfl | trivial⟩, hK _ ?_⟩; clear hK) | refine bx ?_)
    have hs := store_ecell (P := Try.prog) (q := 1) (off := 34) (ty := 44) (x := vN .u32 (xr o.seq b)) xe hf' ty44 rfl rfl (by omega)
    refine aq (p := .eptr e k 34 35) (v := vN .u32 (xr o.seq b)) rfl rfl rfl (by simp (disch := omega) only [WW, BB, ↓ab, simprocAttr]) (by simp (disch := omega) only [WW, BB, ↓ab, simprocAttr, xr]) hs ?_
    have hX' : upd X e (some (.arr 35 (es'.set k (f.set 34 (vN .u32 (xr o.seq b)))))) = upd Z e (some (.arr 35 (es'.set k (f.set 34 (vN .u32 (xr o.seq b)))))) := by rw [hX, aD]
    repeat (first
    | (refine aa rfl fun K hK => ?_; simp (disch := omega) only [WW, BB, ↓ab, simprocAttr, q80, aP]; refine hK _ _ ?_; clear hK) | (refine ae ?_; simp only [TH]; first | (((repeat ((fail_if_success refine hS _ _ ?_); clear hS)); refine hS _ _ ?_); clear hS; try clear hF) | skip) | refine ac rfl ?_)
    refine hKL (ins.length - (k + 1)) _ _ (by omega) ⟨k + 1, es'.set k (f.set 34 (vN .u32 (xr o.seq b))), rfl, by omega, fun j hj => ?_, ?_, hX', ?_, by simp [hel]⟩
    · have : j ≠ 17 ∧ j ≠ 80 ∧ j ≠ 81 ∧ j ≠ 82 ∧ j ≠ 83 ∧ j ≠ 84 ∧ j ≠ 85 ∧ j ≠ 86 ∧ j ≠ 87 ∧ j ≠ 88 ∧ j ≠ 89 ∧ j ≠ 90 ∧ j ≠ 91 ∧ j ≠ 92 ∧ j ≠ 93 ∧ j ≠ 94 ∧ j ≠ 95 ∧ j ≠ 96 ∧ j ≠ 97 ∧ j ≠ 98 ∧ j ≠ 99 ∧ j ≠ 100 := by omega
      rw [← hkp j hj]
      simp only [WW, ↓ab, this, ↓reduceIte, Nat.reduceLT]
    · simp (disch := omega) only [WW, BB, ↓ab, simprocAttr]
    · rw [← mix_set ho]
      exact hes'.set s3
  · refine aG ?_
    simp only [TH]
    have : k = ins.length := by omega
    subst this
    rw [List.take_of_length_le (Nat.le_refl _), List.drop_length, List.append_nil] at hes'
    rw [hX]
    exact hQ _ es' (fun j hj => by rw [ah _ _ _ (by omega)]; exact hkp j (by omega)) hes' hel
end
end Go.Av

set_option linter.unusedSimpArgs false
set_option linter.unusedVariables false
namespace Go.Av
open Go.RowKit Go.Proofs

theorem nodup_inj : ∀ (ks : List (Option Nat)), (ks.filterMap id).Nodup → ∀ (i j e : Nat), ks[i]? = some (some e) → ks[j]? = some (some e) → i = j
  | [], _, i, j, e, h, _ => by simp at h
  | a :: r, hn, i, j, e, hi, hj => by
    have hr : (r.filterMap id).Nodup := by
      cases a with
      | none => simpa using hn
      | some a => simp only [List.filterMap_cons, id, List.nodup_cons] at hn; exact hn.2
    have mem : ∀ {j : Nat}, r[j]? = some (some e) → e ∈ r.filterMap id := fun h => List.mem_filterMap.2 ⟨some e, List.mem_of_getElem? h, rfl⟩
    cases i with
    | zero =>
      cases j with
      | zero => rfl
      | succ j =>
        simp only [List.getElem?_cons_zero, Option.some.injEq] at hi
        subst hi
        simp only [List.filterMap_cons, id, List.nodup_cons] at hn
        exact absurd (mem hj) hn.1
    | succ i =>
      cases j with
      | zero =>
        simp only [List.getElem?_cons_zero, Option.some.injEq] at hj
        subst hj
        simp only [List.filterMap_cons, id, List.nodup_cons] at hn
        exact absurd (mem hi) hn.1
      | succ j => rw [nodup_inj r hr i j e hi hj]
theorem Rows4.set {G X X' : Hp} {fs : List (List V)} {ks : List (Option Nat)} {L : List TTx} {i : Nat} {k : Option Nat} {f' : List V} {x' : TTx} (h : Rows4 G X fs ks L) (hk : ks[i]? = some k) (hr : rowT G X' f' k x') (ho : ∀ j e, j ≠ i → ks[j]? = some (some e) → X' e = X e) : Rows4 G X' (fs.set i f') ks (L.set i x') := by
  refine ⟨by simp [h.lf], by simp [h.lk], fun j f k' x a b c => ?_, h.nd⟩
  rw [List.getElem?_set] at a c
  split at a
  · rename_i e
    subst e
    rw [if_pos rfl] at c
    split at a
    · split at c
      · cases a; cases c
        rw [hk] at b; cases b
        exact hr
      · cases c
    · cases a
  · rename_i e
    rw [if_neg e] at c
    exact rowT_mv (h.row j f k' x a b c) fun e' he' => ho j e' (Ne.symm e) (by rw [b, he'])

section
variable {Y : aC} {Q : Exit → T → Hp → Prop} {t : T} {G Z : Hp} {a b c c2 : Nat} {h : Hdr} {w : V} {fs : List (List V)} {ks : List (Option Nat)} {l : List TTx}
theorem l11z (q79 : t 79 = vN .i64 0) (q80 : t 80 = vN .i64 0) (hQ : ∀ t', (∀ j, j < 17 ∨ j = 49 ∨ j = 50 → t' j = t j) → Q (.exit 2) t' Z) : wpC Try.prog S11 Y [5] 153 (aU Try.f11 1) true Q t Z := by
  refine aO (fun m t' X => t' = t ∧ X = Z) 0 ⟨rfl, rfl⟩ fun KL m t' X hI hKL => ?_
  obtain ⟨rfl, rfl⟩ := hI
  repeat (first
    | (refine aa rfl fun K hK => ?_; simp (disch := omega) only [WW, BB, ↓ab, simprocAttr, q79, q80, Nat.lt_irrefl, decide_false]; refine hK _ _ ?_; clear hK) | (refine ae ?_; simp only [TH]; (((repeat ((fail_if_success refine hS _ _ ?_); clear hS)); refine hS _ _ ?_); clear hS; try clear hF)) | refine af fun K hS hF => ?_ | refine ac rfl ?_)
  refine aE (by simp (disch := omega) only [WW, BB, ↓ab, simprocAttr]) ?_
  refine aG ?_
  simp only [TH]
  exact hQ _ fun j hj => by rw [ah _ _ _ (by omega)]

theorem l11o (q2 : t 2 = vN .u32 a) (q3 : t 3 = vN .u32 b) (q4 : t 4 = vN .u32 c) (q14 : t 14 = .ptr c2 0) (q49 : t 49 = vN .i64 l.length) (q50 : t 50 = vN .i64 0) (ho : okHd h) (hl : okTs l) (hG : hle G Z) (hc : Z c2 = some (.row (hdC h ++ [w]))) (hok : okO G Z w 4 fs) (hr : Rows4 G Z fs ks l)
    (hQ : ∀ t' Z' fs', (∀ j, j < 15 → t' j = t j) → hle G Z' → (∀ j r, Z j = some (.row r) → Z' j = some (.row r)) → okO G Z' w 4 fs' → Rows4 G Z' fs' ks (mL a c b l) → Q (.exit 0) t' Z') :
    wpC Try.prog S11 Y [5] 153 (aU Try.f11 0) true Q t Z := by
  have hhl := aX ho
  have hl1 := hl.1
  refine aO (fun m t' X => ∃ i fs, m = l.length - i ∧ i ≤ l.length ∧ (∀ j, j < 15 ∨ j = 49 → t' j = t j) ∧ t' 50 = vN .i64 i ∧ hle G X ∧ (∀ j r, Z j = some (.row r) → X j = some (.row r)) ∧ okO G X w 4 fs ∧ Rows4 G X fs ks ((l.take i).map (mT a c b) ++ l.drop i)) l.length
    ⟨0, fs, rfl, by omega, fun _ _ => rfl, q50, hG, fun _ _ h => h, hok, by simpa using hr⟩ fun KL m t' X hI hKL => ?_
  clear hG hok hr q50
  obtain ⟨i, fs, rfl, hi, hkp, q50, hG, hrw, hok, hr⟩ := hI
  have p2 : t' 2 = vN .u32 a := by rw [hkp 2 (by omega)]; exact q2
  have p3 : t' 3 = vN .u32 b := by rw [hkp 3 (by omega)]; exact q3
  have p4 : t' 4 = vN .u32 c := by rw [hkp 4 (by omega)]; exact q4
  have p14 : t' 14 = .ptr c2 0 := by rw [hkp 14 (by omega)]; exact q14
  have p49 : t' 49 = vN .i64 l.length := by rw [hkp 49 (by omega)]; exact q49
  repeat (first
    | (refine aa rfl fun K hK => ?_; simp (disch := omega) only [WW, BB, ↓ab, simprocAttr, q50, p49]; refine hK _ _ ?_; clear hK) | (refine ae ?_; simp only [TH]; (((repeat ((fail_if_success refine hS _ _ ?_); clear hS)); refine hS _ _ ?_); clear hS; try clear hF)) | refine af fun K hS hF => ?_ | refine ac rfl ?_)
  refine aH rfl (fun hd => ?_) (fun hd => ?_)
  · (refine am ?_; simp only [TH]; ((repeat ((fail_if_success refine hS _ _ ?_); clear hS)); refine hS _ _ ?_); clear hS; try clear hF)
    obtain ⟨x, hx⟩ : ∃ x, l[i]? = some x := ⟨_, List.getElem?_eq_getElem hd⟩
    have hLx := mix_get (g := mT a c b) hx
    have hlf : i < fs.length := by rw [hr.lf, mix_len]; exact hd
    have hlk : i < ks.length := by rw [hr.lk, mix_len]; exact hd
    obtain ⟨f, hf⟩ : ∃ f, fs[i]? = some f := ⟨_, List.getElem?_eq_getElem hlf⟩
    obtain ⟨k, hk⟩ : ∃ k, ks[i]? = some k := ⟨_, List.getElem?_eq_getElem hlk⟩
    have hrow := hr.row i f k x hf hk hLx
    rcases hok with ⟨rfl, _⟩ | ⟨e0, g0, xe0, rfl⟩
    · simp at hlf
    have ldw : ((aK X (.ptr c2 68)).bind fun x => ldc (tyT Try.prog 47) x.1 x.2) = some (.osl e0 0 fs.length 4 false) := aw (hrw _ _ hc) ty47 (by rw [List.getElem?_append_right (by omega), hhl]; rfl)
    repeat (first
    | (refine aa rfl fun K hK => ?_; simp (disch := omega) only [WW, BB, ↓ab, simprocAttr, q50, p14, bu, ldw, ix_osl ar47 sl47 hlf]; refine hK _ _ ?_; clear hK) | (refine ae ?_; simp only [TH]; (((repeat ((fail_if_success refine hS _ _ ?_); clear hS)); refine hS _ _ ?_); clear hS; try clear hF)) | refine af fun K hS hF => ?_ | refine ac rfl ?_)
    obtain ⟨hv, hlk2, u, hu, hrow⟩ := hrow
    -- behind the version and the lock time
    have fin : ∀ {t2 : T} {X2 : Hp} {f2 : List V}, (∀ j, j < 15 ∨ j = 49 → t2 j = t' j) → t2 50 = vN .i64 i → hle G X2 → (∀ j r, X j = some (.row r) → X2 j = some (.row r)) → X2 e0 = some (.arr 4 (fs.set i f2)) → Rows4 G X2 (fs.set i f2) ks ((l.take (i + 1)).map (mT a c b) ++ l.drop (i + 1)) → wpC Try.prog S11 Y [5] 153 (regAt Try.f11 20) true (bC (fun t' H' => KL (l.length - i) t' H') Q) t2 X2 := fun {t2} {X2} {f2} k1 k2 k3 k4 k5 k6 => by
      show wpC Try.prog S11 Y [5] 153 (.region 20 _ false) true _ t2 X2
      repeat (first
    | (refine aa rfl fun K hK => ?_; simp (disch := omega) only [WW, BB, ↓ab, simprocAttr, k2, aP]; refine hK _ _ ?_; clear hK) | (refine ae ?_; simp only [TH]; first | (((repeat ((fail_if_success refine hS _ _ ?_); clear hS)); refine hS _ _ ?_); clear hS; try clear hF) | skip) | refine ac rfl ?_)
      refine hKL (l.length - (i + 1)) _ _ (by omega) ⟨i + 1, fs.set i f2, rfl, by omega, fun j hj => ?_, by simp (disch := omega) only [WW, BB, ↓ab, simprocAttr], k3, fun j r hj => k4 _ _ (hrw j r hj), .inr ⟨e0, g0, k5, by simp⟩, k6⟩
      rw [← hkp j hj, ← k1 j hj, ah _ _ _ (by omega), ah _ _ _ (by omega)]
    cases k with
    | none =>
      obtain ⟨rfl, hins⟩ := hrow
      refine reg11_14 (a := a) (c := c) (ver := x.ver) (lock := x.lock) (e0 := e0) (i := i) (fs := fs) (w := .nils) (u := u) ?_ ?_ ?_ xe0 hf fun t2 hk2 hk3 => hS _ _ ?_
      · simp (disch := omega) only [WW, BB, ↓ab, simprocAttr, p2]
      · simp (disch := omega) only [WW, BB, ↓ab, simprocAttr, p4]
      · simp (disch := omega) only [WW, BB, ↓ab, simprocAttr]
      clear hS hF
      have z0 : upd X e0 (some (.arr 4 (fs.set i [vN .u32 (xr x.ver a), .nils, u, vN .u32 (xr x.lock c)]))) e0 = some (.arr 4 (fs.set i [vN .u32 (xr x.ver a), .nils, u, vN .u32 (xr x.lock c)])) := ag _ _ _
      have hset : (fs.set i [vN .u32 (xr x.ver a), V.nils, u, vN .u32 (xr x.lock c)])[i]? = some [vN .u32 (xr x.ver a), .nils, u, vN .u32 (xr x.lock c)] := by rw [List.getElem?_set_self hlf]
      have r16 : t2 16 = .eptr e0 i 0 4 := by rw [hk2 16 (by omega) (by omega)]; simp (disch := omega) only [WW, BB, ↓ab, simprocAttr]
      have r50 : t2 50 = vN .i64 i := by rw [hk3 50 (by omega)]; simp (disch := omega) only [WW, BB, ↓ab, simprocAttr, q50]
      have hkk : ∀ j, j < 15 ∨ j = 49 → t2 j = t' j := fun j hj => by
        have : j ≠ 51 ∧ j ≠ 52 ∧ j ≠ 53 ∧ j ≠ 54 ∧ j ≠ 55 ∧ j ≠ 56 ∧ j ≠ 15 ∧ j ≠ 16 := by omega
        rcases hj with hj | hj
        · rw [hk2 j (by omega) (by omega)]
          simp only [WW, ↓ab, this, ↓reduceIte, Nat.reduceLT]
        · rw [hk3 j (.inl hj)]
          simp only [WW, ↓ab, this, ↓reduceIte, Nat.reduceLT]
      clear hk2 hk3
      have hln : lenV Try.prog 53 .nils = some (vN .i64 0) := av (P := Try.prog) (H := X) (x := .nils) (es := []) sl53 rfl
      repeat (first
    | (refine aa rfl fun K hK => ?_; simp (disch := omega) only [WW, BB, ↓ab, simprocAttr, r16, bA, load_ecell (P := Try.prog) (off := 1) z0 hset ty53 rfl, hln]; refine hK _ _ ?_; clear hK) | (refine ae ?_; simp only [TH]; (((repeat ((fail_if_success refine hS _ _ ?_); clear hS)); refine hS _ _ ?_); clear hS; try clear hF)) | refine af fun K hS hF => ?_ | refine ac rfl ?_ | refine ax ?_)
      refine l11z ?_ ?_ fun t3 k3 => ?_
      · simp (disch := omega) only [WW, BB, ↓ab, simprocAttr]
      · simp (disch := omega) only [WW, BB, ↓ab, simprocAttr]
      (simp only [TH, ↓reduceIte, Nat.reduceEqDiff]; ((repeat ((fail_if_success refine hS _ _ ?_); clear hS)); refine hS _ _ ?_); clear hS; try clear hF)
      have h0 : mT a c b x = ⟨xr x.ver a, [], x.outs, xr x.lock c⟩ := by simp only [mT, hins, List.map_nil]
      refine fin (f2 := [vN .u32 (xr x.ver a), .nils, u, vN .u32 (xr x.lock c)]) (fun j hj => ?_) ?_ (ai hG g0) (fun j r hj => ?_) z0 ?_
      · have : j ≠ 75 ∧ j ≠ 76 ∧ j ≠ 77 ∧ j ≠ 78 ∧ j ≠ 79 ∧ j ≠ 80 := by omega
        rw [k3 j (by omega), ← hkk j hj]
        simp only [WW, ↓ab, this, ↓reduceIte, Nat.reduceLT]
      · rw [k3 50 (by omega)]
        simp (disch := omega) only [WW, BB, ↓ab, simprocAttr, r50]
      · rw [ah _ _ _ (fun h => by subst h; rw [xe0] at hj; cases hj)]
        exact hj
      · rw [← mix_set hx]
        refine hr.set hk ⟨Nat.mod_lt _ (by decide), Nat.mod_lt _ (by decide), u, hu, ?_⟩ fun j e' hj he' => ?_
        · exact ⟨rfl, by rw [h0]⟩
        · obtain ⟨es', y1, _⟩ := hr.at_some (List.mem_of_getElem? he')
          rw [ah _ _ _ (fun h => by subst h; rw [xe0] at y1; cases y1)]
    | some e =>
      obtain ⟨es, rfl, he, ge, hes⟩ := hrow
      have hee : e ≠ e0 := fun h => by subst h; rw [he] at xe0; cases xe0
      have hox := hl.2 x (List.mem_of_getElem? hx)
      have hin := hox.1
      have hel := hes.1
      refine reg11_14 (a := a) (c := c) (ver := x.ver) (lock := x.lock) (e0 := e0) (i := i) (fs := fs) (w := .osl e 0 es.length 35 false) (u := u) ?_ ?_ ?_ xe0 hf fun t2 hk2 hk3 => hS _ _ ?_
      · simp (disch := omega) only [WW, BB, ↓ab, simprocAttr, p2]
      · simp (disch := omega) only [WW, BB, ↓ab, simprocAttr, p4]
      · simp (disch := omega) only [WW, BB, ↓ab, simprocAttr]
      clear hS hF
      have z0 : upd X e0 (some (.arr 4 (fs.set i [vN .u32 (xr x.ver a), .osl e 0 es.length 35 false, u, vN .u32 (xr x.lock c)]))) e0 = some (.arr 4 (fs.set i [vN .u32 (xr x.ver a), .osl e 0 es.length 35 false, u, vN .u32 (xr x.lock c)])) := ag _ _ _
      have hset : (fs.set i [vN .u32 (xr x.ver a), V.osl e 0 es.length 35 false, u, vN .u32 (xr x.lock c)])[i]? = some [vN .u32 (xr x.ver a), .osl e 0 es.length 35 false, u, vN .u32 (xr x.lock c)] := by rw [List.getElem?_set_self hlf]
      have r16 : t2 16 = .eptr e0 i 0 4 := by rw [hk2 16 (by omega) (by omega)]; simp (disch := omega) only [WW, BB, ↓ab, simprocAttr]
      have r50 : t2 50 = vN .i64 i := by rw [hk3 50 (by omega)]; simp (disch := omega) only [WW, BB, ↓ab, simprocAttr, q50]
      have hkk : ∀ j, j < 15 ∨ j = 49 → t2 j = t' j := fun j hj => by
        have : j ≠ 51 ∧ j ≠ 52 ∧ j ≠ 53 ∧ j ≠ 54 ∧ j ≠ 55 ∧ j ≠ 56 ∧ j ≠ 15 ∧ j ≠ 16 := by omega
        rcases hj with hj | hj
        · rw [hk2 j (by omega) (by omega)]
          simp only [WW, ↓ab, this, ↓reduceIte, Nat.reduceLT]
        · rw [hk3 j (.inl hj)]
          simp only [WW, ↓ab, this, ↓reduceIte, Nat.reduceLT]
      clear hk2 hk3
      have ze : upd X e0 (some (.arr 4 (fs.set i [vN .u32 (xr x.ver a), .osl e 0 es.length 35 false, u, vN .u32 (xr x.lock c)]))) e = some (.arr 35 es) := by rw [ah _ _ _ hee]; exact he
      have hXk : ∀ j, j ≠ e0 → upd X e0 (some (.arr 4 (fs.set i [vN .u32 (xr x.ver a), .osl e 0 es.length 35 false, u, vN .u32 (xr x.lock c)]))) j = X j := fun j hj => ah _ _ _ hj
      have hG1 : hle G (upd X e0 (some (.arr 4 (fs.set i [vN .u32 (xr x.ver a), .osl e 0 es.length 35 false, u, vN .u32 (xr x.lock c)])))) := ai hG g0
      generalize upd X e0 (some (.arr 4 (fs.set i [vN .u32 (xr x.ver a), .osl e 0 es.length 35 false, u, vN .u32 (xr x.lock c)]))) = X1 at *
      have hln : lenV Try.prog 53 (.osl e 0 es.length 35 false) = some (vN .i64 x.ins.length) := by
        rw [← hel]
        refine av (P := Try.prog) (H := X1) (es := es) sl53 ?_
        simp only [ao, ze]
        rw [if_pos ⟨trivial, trivial, by omega⟩, List.drop_zero, List.take_of_length_le (Nat.le_refl _)]
      repeat (first
    | (refine aa rfl fun K hK => ?_; simp (disch := omega) only [WW, BB, ↓ab, simprocAttr, r16, bA, load_ecell (P := Try.prog) (off := 1) z0 hset ty53 rfl, hln]; refine hK _ _ ?_; clear hK) | (refine ae ?_; simp only [TH]; (((repeat ((fail_if_success refine hS _ _ ?_); clear hS)); refine hS _ _ ?_); clear hS; try clear hF)) | refine af fun K hS hF => ?_ | refine ac rfl ?_ | refine ax ?_)
      refine l11i (b := b) (e0 := e0) (i := i) (ins := x.ins) ?_ ?_ ?_ ?_ z0 hset ze hes hin fun t3 es' k3 hes' hel' => ?_
      · simp (disch := omega) only [WW, BB, ↓ab, simprocAttr]
        rw [hkk 3 (by omega)]
        exact p3
      · simp (disch := omega) only [WW, BB, ↓ab, simprocAttr, r16]
      · simp (disch := omega) only [WW, BB, ↓ab, simprocAttr]
      · simp (disch := omega) only [WW, BB, ↓ab, simprocAttr]
      (simp only [TH, ↓reduceIte, Nat.reduceEqDiff]; ((repeat ((fail_if_success refine hS _ _ ?_); clear hS)); refine hS _ _ ?_); clear hS; try clear hF)
      refine fin (f2 := [vN .u32 (xr x.ver a), .osl e 0 es.length 35 false, u, vN .u32 (xr x.lock c)]) (fun j hj => ?_) ?_ (ai hG1 ge) (fun j r hj => ?_) (by rw [ah _ _ _ (Ne.symm hee)]; exact z0) ?_
      · have : j ≠ 75 ∧ j ≠ 76 ∧ j ≠ 77 ∧ j ≠ 78 ∧ j ≠ 79 ∧ j ≠ 80 := by omega
        rw [k3 j (by omega), ← hkk j hj]
        simp only [WW, ↓ab, this, ↓reduceIte, Nat.reduceLT]
      · rw [k3 50 (by omega)]
        simp (disch := omega) only [WW, BB, ↓ab, simprocAttr, r50]
      · rw [ah _ _ _ (fun h => by subst h; rw [he] at hj; cases hj), hXk _ (fun h => by subst h; rw [xe0] at hj; cases hj)]
        exact hj
      · rw [← mix_set hx]
        refine hr.set hk ⟨Nat.mod_lt _ (by decide), Nat.mod_lt _ (by decide), u, hu, es', by rw [hel']; rfl, ag _ _ _, ge, hes'⟩ fun j e' hj he' => ?_
        obtain ⟨es2, y1, _⟩ := hr.at_some (List.mem_of_getElem? he')
        rw [ah _ _ _ (fun h => by subst h; exact hj (nodup_inj ks hr.nd j i _ he' hk)), hXk _ (fun h => by subst h; rw [xe0] at y1; cases y1)]
  · refine aG ?_
    simp only [TH]
    have : i = l.length := by omega
    subst this
    rw [List.take_of_length_le (Nat.le_refl _), List.drop_length, List.append_nil] at hr
    exact hQ _ X fs (fun j hj => by rw [ah _ _ _ (by omega)]; exact hkp j (by omega)) hG hrw hok hr
end
end Go.Av

set_option linter.unusedSimpArgs false
set_option linter.unusedVariables false
namespace Go.Av
open Go.RowKit Go.Proofs

theorem rows_txs {G Z : Hp} {w : V} {fs : List (List V)} {ks : List (Option Nat)} {L : List TTx} (hok : okO G Z w 4 fs) (h : Rows4 G Z fs ks L) : isTxs Z w L := by
  have he : Each (isTx Z) fs L := ⟨h.lf, fun j f x hf hx => by
    have hj : j < ks.length := by rw [h.lk]; exact (List.getElem?_eq_some_iff.1 hx).1
    exact rowT_tx (h.row j f _ x hf (List.getElem?_eq_getElem hj) hx)⟩
  rcases hok with ⟨rfl, rfl⟩ | ⟨e, _, hz, rfl⟩
  · exact ⟨[], rfl, rfl, he⟩
  · refine ⟨fs, ?_, rfl, he⟩
    simp only [ao, hz]
    rw [if_pos ⟨trivial, trivial, by omega⟩, List.drop_zero, List.take_of_length_le (Nat.le_refl _)]
theorem mL_ok {a b c : Nat} {l : List TTx} (h : okTs l) : okTs (mL a b c l) := by
  refine ⟨by rw [mL, List.length_map]; exact h.1, fun x hx => ?_⟩
  obtain ⟨y, hy, rfl⟩ := List.mem_map.1 hx
  obtain ⟨h1, h2, h3, h4⟩ := h.2 y hy
  refine ⟨by simpa [mT] using h1, h2, fun i hi => ?_, h4⟩
  obtain ⟨j, hj, rfl⟩ := List.mem_map.1 hi
  exact h3 j hj
/-- A header takes another root. -/
theorem spl_rootH {h : Hdr} {r : List Nat} (ho : okHd h) (hr : r.length = 32) : br (hdC h) 33 (nR .u8 r) = hdC { h with root := r } := by
  have hl := aX ho
  have e := spl_root (v := .nils) ho hr
  have e2 : br (hdC h ++ [.nils]) 33 (nR .u8 r) = br (hdC h) 33 (nR .u8 r) ++ [.nils] := by
    simp only [br, ar, hr]
    rw [List.take_append_of_le_length (by omega), List.drop_append_of_le_length (by omega), List.append_assoc, List.append_assoc]
  rw [e2] at e
  exact List.append_cancel_right e
theorem store_hroot {X : Hp} {b : Nat} {h : Hdr} {r : List Nat} (xb : X b = some (.row (hdC h))) (ho : okHd h) (hr : r.length = 32) : storeV Try.prog X 25 (.ptr b 33) (.agg (nR .u8 r)) = some (upd X b (some (.row (hdC { h with root := r })))) := by
  have hl := aX ho
  simp only [storeV, bb, aW, xb]
  rw [if_pos ⟨by rw [ar, hr], bk _ _⟩, if_pos (by rw [ar]; omega), spl_rootH ho hr]
theorem store_hdr {X : Hp} {b : Nat} {h h2 : Hdr} {v : V} (xb : X b = some (.row (hdC h ++ [v]))) (ho : okHd h) (ho2 : okHd h2) : storeV Try.prog X 46 (.ptr b 0) (.agg (hdC h2)) = some (upd X b (some (.row (hdC h2 ++ [v])))) := by
  have hl := aX ho
  have hl2 := aX ho2
  simp only [storeV, ty46, aW, xb]
  rw [if_pos ⟨hl2, hdC_ones _⟩, if_pos (by simp; omega)]
  simp only [br, List.take_zero, List.nil_append, Nat.zero_add]
  rw [hl2, List.drop_append_of_le_length (by omega), List.drop_of_length_le (by omega), List.nil_append]

section
variable {Y : aC} {t : T} {Z : Hp} {c1 c2 : Nat} {h : Hdr} {v w : V} {l l' : List TTx}
theorem viewL {L : List Nat} {w : V} (h : (w = .nils ∧ nE .i64 L = []) ∨ w = .sl 1 (nE .i64 L) false) (H : Hp) : ao H 1 w = some (nE .i64 L) := by
  rcases h with ⟨rfl, e⟩ | rfl
  · rw [e]; rfl
  · exact bg
theorem reg11_21 {K : T → Hp → Prop} {Q' : Exit → T → Hp → Prop} (q11 : t 11 = .bool true) (q13 : t 13 = .ptr c1 0) (q14 : t 14 = .ptr c2 0) (x1 : Z c1 = some (.row (hdC (rtH (aM l)) ++ [v]))) (x2 : Z c2 = some (.row (hdC h ++ [w]))) (ho : okHd h) (hx : isTxs Z v l) (hw : isTxs Z w l') (hl : okTs l) (hl' : okTs l')
    (hQ : ∀ t' w1 w2, t' 11 = .bool true → t' 18 = w1 → t' 19 = w2 → ao Z 1 w1 = some (nE .i64 (allR (aM l) l)) → ao Z 1 w2 = some (nE .i64 (allR (aM l') l')) → K t' Z) :
    wpC Try.prog S11 Y [5] 153 (regAt Try.f11 21) true (bC K Q') t Z := by
  have hhl := aX ho
  have hr : ∀ l, okH (aM l) := fun l => rootR_ok (idsL_H l)
  have hrl : ∀ l, (hdC (rtH (aM l))).length = 68 := fun l => aX (rtH_ok (hr l))
  have ld1 : ((aK Z (.ptr c1 0)).bind fun x => ldc (tyT Try.prog 49) x.1 x.2) = some (.agg (hdC (rtH (aM l)) ++ [v])) := aJ x1 ty49 (by simp [hrl])
  have ld2 : ((aK Z (.ptr c2 68)).bind fun x => ldc (tyT Try.prog 47) x.1 x.2) = some w := aw x2 ty47 (by rw [List.getElem?_append_right (by omega), hhl]; rfl)
  refine ck 4 [0, 2, 3] (fun i => decide (i = 1)) (fun H' => H' = Z) (by kernel_rfl) rfl fun L B hBd hL => ?_
  refine ay rfl rfl rfl ⟨.agg (hdC (rtH (aM l)) ++ [v]), fun H' hC' => ?_, ?_⟩
  · rw [hC']
    simp (disch := omega) only [WW, BB, ↓ab, simprocAttr, q13, ld1]
    exact ⟨trivial, trivial⟩
  refine ay rfl rfl rfl ⟨.ptr c2 68, fun H' hC' => ?_, ?_⟩
  · simp (disch := omega) only [WW, BB, ↓ab, simprocAttr, q14, bu]
    exact ⟨trivial, trivial⟩
  refine ay rfl rfl rfl ⟨w, fun H' hC' => ?_, ?_⟩
  · rw [hC']
    simp (disch := omega) only [WW, BB, ↓ab, simprocAttr, ld2]
    exact ⟨trivial, trivial⟩
  refine cj (aV [1] (by kernel_rfl) (by simp) fun j hj => ?_)
  obtain rfl : j = 1 := by simpa using hj
  refine ⟨by omega, bS rfl rfl rfl ⟨fun w1 H' => ao Z 1 w1 = some (nE .i64 (allR (aM l) l)) ∧ H' = Z, ?_, ?_⟩⟩
  · simp (disch := omega) only [WW, BB, ↓ab, simprocAttr]
    exact ⟨rtH (aM l), v, l, rfl, rtH_ok (hr _), hx, hl, fun w1 hw1 => ⟨viewL hw1 Z, rfl⟩⟩
  rintro w1 H' ⟨hw1, hH⟩
  rw [hH]
  clear hH H'
  refine ⟨rfl, bN (hL _ _ _ (by rw [hBd]; kernel_rfl) ?_)⟩
  skip
  refine aa rfl fun K hK => ⟨w, l', rfl, hw, hl', hK _ _ ?_⟩
  clear hK
  skip
  refine aa rfl fun K hK => ⟨rtH (aM l'), w, l', rfl, rtH_ok (hr _), hw, hl', fun w2 hw2 => hK _ _ ?_⟩
  clear hK
  have hw2' := viewL hw2 Z
  repeat (first
    | (refine aa rfl fun K hK => ?_; simp (disch := omega) only [WW, BB, ↓ab, simprocAttr]; refine hK _ _ ?_; clear hK) | (refine ae ?_; simp only [TH]; first | (((repeat ((fail_if_success refine hS _ _ ?_); clear hS)); refine hS _ _ ?_); clear hS; try clear hF) | skip))
  refine hQ _ w1 w2 ?_ ?_ ?_ hw1 hw2'
  · simp (disch := omega) only [WW, BB, ↓ab, simprocAttr, q11]
  · simp (disch := omega) only [WW, BB, ↓ab, simprocAttr]
  · simp (disch := omega) only [WW, BB, ↓ab, simprocAttr]
end
end Go.Av

set_option linter.unusedSimpArgs false
set_option linter.unusedVariables false
namespace Go.Av
open Go.RowKit Go.Proofs
theorem ar71 : arrT Try.prog 71 = none := by kernel_rfl

section
variable {Y : aC} {t : T} {Z : Hp} {w1 w2 : V} {L1 L2 : List Nat}
theorem idx71 {w : V} {e : Nat} {r : List Nat} (h : ao Z 1 w = some (nE .i64 (e :: r))) : ∃ p, bw Try.prog 71 w (vN .i64 0) = some p ∧ ((aK Z p).bind fun x => ldc (tyT Try.prog 26) x.1 x.2) = some (vN .i64 e) := by
  obtain ⟨p, h1, h2⟩ := ci (P := Try.prog) (k := .i64) (i := 0) (y := vN .i64 _) ar71 sl71 h rfl
  exact ⟨p, h1, by rw [ty26]; exact h2 _⟩
theorem eqB4 {a b : Bool} : aI Try.prog .eql 4 (.bool a) (.bool b) = some (.bool (a == b)) := by
  have h : Try.prog.underlying 4 = some .bool := by kernel_rfl
  unfold aI
  simp only [h, eqop]
theorem dLen (e : Nat) (r : List Nat) : decide (0 < (e :: r).length) = true ∧ decide ((e :: r).length = 0) = false := ⟨by simp, by simp⟩
theorem reg11_22 {K : T → Hp → Prop} {Q' : Exit → T → Hp → Prop} (q11 : t 11 = .bool true) (q18 : t 18 = w1) (q19 : t 19 = w2) (hw1 : ao Z 1 w1 = some (nE .i64 L1)) (hw2 : ao Z 1 w2 = some (nE .i64 L2))
    (hQ : ∀ t', t' 11 = .bool true → t' 18 = w1 → t' 19 = w2 → t' 127 = .bool (badR L1 || badR L2) → K t' Z) : wpC Try.prog S11 Y [5] 153 (regAt Try.f11 22) true (bC K Q') t Z := by
  have hl1 := av (P := Try.prog) sl71 hw1
  have hl2 := av (P := Try.prog) sl71 hw2
  rw [az] at hl1 hl2
  show wpC Try.prog S11 Y [5] 153 (.region 22 _ false) true _ t Z
  have fin : ∀ {t' : T} {r : Bool}, t' 11 = .bool true → t' 18 = w1 → t' 19 = w2 → t' 127 = .bool r → (badR L1 || badR L2) = r → K t' Z := fun a b c d e => hQ _ a b c (by rw [d, e])
  clear hQ
  cases L1 with
  | nil =>
    cases L2 with
    | nil =>
      repeat (first
    | (refine aa rfl fun K hK => ?_; simp (disch := omega) only [WW, BB, ↓ab, ↓reduceIte, Int.reduceLT, Int.reduceNeg, Int.reduceLE, Int.reduceToNat, Nat.reduceLT, Nat.reduceEqDiff, Nat.reduceAdd, Nat.reduceMul, Nat.reduceSub, Nat.reduceLeDiff, Nat.reduceBEq, q11, q18, q19, hl1, hl2, List.length_nil, Nat.lt_irrefl, decide_false]; refine hK _ _ ?_; clear hK) | refine bl rfl ?_ | (refine ae ?_; simp only [TH]; first | (((repeat ((fail_if_success refine hS _ _ ?_); clear hS)); refine hS _ _ ?_); clear hS; try clear hF) | skip) | refine ac rfl ?_)
      exact fin (r := false) (by simp (disch := omega) only [WW, BB, ↓ab, ↓reduceIte, Int.reduceLT, Int.reduceNeg, Int.reduceLE, Int.reduceToNat, Nat.reduceLT, Nat.reduceEqDiff, Nat.reduceAdd, Nat.reduceMul, Nat.reduceSub, Nat.reduceLeDiff, Nat.reduceBEq, q11]) (by simp (disch := omega) only [WW, BB, ↓ab, ↓reduceIte, Int.reduceLT, Int.reduceNeg, Int.reduceLE, Int.reduceToNat, Nat.reduceLT, Nat.reduceEqDiff, Nat.reduceAdd, Nat.reduceMul, Nat.reduceSub, Nat.reduceLeDiff, Nat.reduceBEq, q18]) (by simp (disch := omega) only [WW, BB, ↓ab, ↓reduceIte, Int.reduceLT, Int.reduceNeg, Int.reduceLE, Int.reduceToNat, Nat.reduceLT, Nat.reduceEqDiff, Nat.reduceAdd, Nat.reduceMul, Nat.reduceSub, Nat.reduceLeDiff, Nat.reduceBEq, q19]) (by simp (disch := omega) only [WW, BB, ↓ab, ↓reduceIte, Int.reduceLT, Int.reduceNeg, Int.reduceLE, Int.reduceToNat, Nat.reduceLT, Nat.reduceEqDiff, Nat.reduceAdd, Nat.reduceMul, Nat.reduceSub, Nat.reduceLeDiff, Nat.reduceBEq]) rfl
    | cons e2 r2 =>
      obtain ⟨p2, hp2, hpl2⟩ := idx71 hw2
      repeat (first
    | (refine aa rfl fun K hK => ?_; simp (disch := omega) only [WW, BB, ↓ab, ↓reduceIte, Int.reduceLT, Int.reduceNeg, Int.reduceLE, Int.reduceToNat, Nat.reduceLT, Nat.reduceEqDiff, Nat.reduceAdd, Nat.reduceMul, Nat.reduceSub, Nat.reduceLeDiff, Nat.reduceBEq, q11, q18, q19, hl1, hl2, List.length_nil, Nat.lt_irrefl, decide_false, (dLen e2 r2).1, hp2, hpl2]; refine hK _ _ ?_; clear hK) | refine bl rfl ?_ | (refine ae ?_; simp only [TH]; first | (((repeat ((fail_if_success refine hS _ _ ?_); clear hS)); refine hS _ _ ?_); clear hS; try clear hF) | skip) | refine ac rfl ?_)
      exact fin (r := decide (e2 = 242)) (by simp (disch := omega) only [WW, BB, ↓ab, ↓reduceIte, Int.reduceLT, Int.reduceNeg, Int.reduceLE, Int.reduceToNat, Nat.reduceLT, Nat.reduceEqDiff, Nat.reduceAdd, Nat.reduceMul, Nat.reduceSub, Nat.reduceLeDiff, Nat.reduceBEq, q11]) (by simp (disch := omega) only [WW, BB, ↓ab, ↓reduceIte, Int.reduceLT, Int.reduceNeg, Int.reduceLE, Int.reduceToNat, Nat.reduceLT, Nat.reduceEqDiff, Nat.reduceAdd, Nat.reduceMul, Nat.reduceSub, Nat.reduceLeDiff, Nat.reduceBEq, q18]) (by simp (disch := omega) only [WW, BB, ↓ab, ↓reduceIte, Int.reduceLT, Int.reduceNeg, Int.reduceLE, Int.reduceToNat, Nat.reduceLT, Nat.reduceEqDiff, Nat.reduceAdd, Nat.reduceMul, Nat.reduceSub, Nat.reduceLeDiff, Nat.reduceBEq, q19]) (by simp (disch := omega) only [WW, BB, ↓ab, ↓reduceIte, Int.reduceLT, Int.reduceNeg, Int.reduceLE, Int.reduceToNat, Nat.reduceLT, Nat.reduceEqDiff, Nat.reduceAdd, Nat.reduceMul, Nat.reduceSub, Nat.reduceLeDiff, Nat.reduceBEq]) (by simp [badR])
  | cons e1 r1 =>
    obtain ⟨p1, hp1, hpl1⟩ := idx71 hw1
    by_cases c1 : e1 = 242
    · repeat (first
    | (refine aa rfl fun K hK => ?_; simp (disch := omega) only [WW, BB, ↓ab, ↓reduceIte, Int.reduceLT, Int.reduceNeg, Int.reduceLE, Int.reduceToNat, Nat.reduceLT, Nat.reduceEqDiff, Nat.reduceAdd, Nat.reduceMul, Nat.reduceSub, Nat.reduceLeDiff, Nat.reduceBEq, q11, q18, q19, hl1, hl2, (dLen e1 r1).1, hp1, hpl1, decide_eq_true c1]; refine hK _ _ ?_; clear hK) | refine bl rfl ?_ | (refine ae ?_; simp only [TH]; first | (((repeat ((fail_if_success refine hS _ _ ?_); clear hS)); refine hS _ _ ?_); clear hS; try clear hF) | skip) | refine ac rfl ?_)
      exact fin (r := true) (by simp (disch := omega) only [WW, BB, ↓ab, ↓reduceIte, Int.reduceLT, Int.reduceNeg, Int.reduceLE, Int.reduceToNat, Nat.reduceLT, Nat.reduceEqDiff, Nat.reduceAdd, Nat.reduceMul, Nat.reduceSub, Nat.reduceLeDiff, Nat.reduceBEq, q11]) (by simp (disch := omega) only [WW, BB, ↓ab, ↓reduceIte, Int.reduceLT, Int.reduceNeg, Int.reduceLE, Int.reduceToNat, Nat.reduceLT, Nat.reduceEqDiff, Nat.reduceAdd, Nat.reduceMul, Nat.reduceSub, Nat.reduceLeDiff, Nat.reduceBEq, q18]) (by simp (disch := omega) only [WW, BB, ↓ab, ↓reduceIte, Int.reduceLT, Int.reduceNeg, Int.reduceLE, Int.reduceToNat, Nat.reduceLT, Nat.reduceEqDiff, Nat.reduceAdd, Nat.reduceMul, Nat.reduceSub, Nat.reduceLeDiff, Nat.reduceBEq, q19]) (by simp (disch := omega) only [WW, BB, ↓ab, ↓reduceIte, Int.reduceLT, Int.reduceNeg, Int.reduceLE, Int.reduceToNat, Nat.reduceLT, Nat.reduceEqDiff, Nat.reduceAdd, Nat.reduceMul, Nat.reduceSub, Nat.reduceLeDiff, Nat.reduceBEq]) (by simp [badR, c1])
    · cases L2 with
      | nil =>
        repeat (first
    | (refine aa rfl fun K hK => ?_; simp (disch := omega) only [WW, BB, ↓ab, ↓reduceIte, Int.reduceLT, Int.reduceNeg, Int.reduceLE, Int.reduceToNat, Nat.reduceLT, Nat.reduceEqDiff, Nat.reduceAdd, Nat.reduceMul, Nat.reduceSub, Nat.reduceLeDiff, Nat.reduceBEq, q11, q18, q19, hl1, hl2, List.length_nil, Nat.lt_irrefl, decide_false, (dLen e1 r1).1, hp1, hpl1, decide_eq_false c1]; refine hK _ _ ?_; clear hK) | refine bl rfl ?_ | (refine ae ?_; simp only [TH]; first | (((repeat ((fail_if_success refine hS _ _ ?_); clear hS)); refine hS _ _ ?_); clear hS; try clear hF) | skip) | refine ac rfl ?_)
        exact fin (r := false) (by simp (disch := omega) only [WW, BB, ↓ab, ↓reduceIte, Int.reduceLT, Int.reduceNeg, Int.reduceLE, Int.reduceToNat, Nat.reduceLT, Nat.reduceEqDiff, Nat.reduceAdd, Nat.reduceMul, Nat.reduceSub, Nat.reduceLeDiff, Nat.reduceBEq, q11]) (by simp (disch := omega) only [WW, BB, ↓ab, ↓reduceIte, Int.reduceLT, Int.reduceNeg, Int.reduceLE, Int.reduceToNat, Nat.reduceLT, Nat.reduceEqDiff, Nat.reduceAdd, Nat.reduceMul, Nat.reduceSub, Nat.reduceLeDiff, Nat.reduceBEq, q18]) (by simp (disch := omega) only [WW, BB, ↓ab, ↓reduceIte, Int.reduceLT, Int.reduceNeg, Int.reduceLE, Int.reduceToNat, Nat.reduceLT, Nat.reduceEqDiff, Nat.reduceAdd, Nat.reduceMul, Nat.reduceSub, Nat.reduceLeDiff, Nat.reduceBEq, q19]) (by simp (disch := omega) only [WW, BB, ↓ab, ↓reduceIte, Int.reduceLT, Int.reduceNeg, Int.reduceLE, Int.reduceToNat, Nat.reduceLT, Nat.reduceEqDiff, Nat.reduceAdd, Nat.reduceMul, Nat.reduceSub, Nat.reduceLeDiff, Nat.reduceBEq]) (by simp [badR, c1])
      | cons e2 r2 =>
        obtain ⟨p2, hp2, hpl2⟩ := idx71 hw2
        repeat (first
    | (refine aa rfl fun K hK => ?_; simp (disch := omega) only [WW, BB, ↓ab, ↓reduceIte, Int.reduceLT, Int.reduceNeg, Int.reduceLE, Int.reduceToNat, Nat.reduceLT, Nat.reduceEqDiff, Nat.reduceAdd, Nat.reduceMul, Nat.reduceSub, Nat.reduceLeDiff, Nat.reduceBEq, q11, q18, q19, hl1, hl2, (dLen e1 r1).1, (dLen e2 r2).1, hp1, hpl1, hp2, hpl2, decide_eq_false c1]; refine hK _ _ ?_; clear hK) | (refine ae ?_; simp only [TH]; first | (((repeat ((fail_if_success refine hS _ _ ?_); clear hS)); refine hS _ _ ?_); clear hS; try clear hF) | skip) | refine ac rfl ?_)
        exact fin (r := decide (e2 = 242)) (by simp (disch := omega) only [WW, BB, ↓ab, ↓reduceIte, Int.reduceLT, Int.reduceNeg, Int.reduceLE, Int.reduceToNat, Nat.reduceLT, Nat.reduceEqDiff, Nat.reduceAdd, Nat.reduceMul, Nat.reduceSub, Nat.reduceLeDiff, Nat.reduceBEq, q11]) (by simp (disch := omega) only [WW, BB, ↓ab, ↓reduceIte, Int.reduceLT, Int.reduceNeg, Int.reduceLE, Int.reduceToNat, Nat.reduceLT, Nat.reduceEqDiff, Nat.reduceAdd, Nat.reduceMul, Nat.reduceSub, Nat.reduceLeDiff, Nat.reduceBEq, q18]) (by simp (disch := omega) only [WW, BB, ↓ab, ↓reduceIte, Int.reduceLT, Int.reduceNeg, Int.reduceLE, Int.reduceToNat, Nat.reduceLT, Nat.reduceEqDiff, Nat.reduceAdd, Nat.reduceMul, Nat.reduceSub, Nat.reduceLeDiff, Nat.reduceBEq, q19]) (by simp (disch := omega) only [WW, BB, ↓ab, ↓reduceIte, Int.reduceLT, Int.reduceNeg, Int.reduceLE, Int.reduceToNat, Nat.reduceLT, Nat.reduceEqDiff, Nat.reduceAdd, Nat.reduceMul, Nat.reduceSub, Nat.reduceLeDiff, Nat.reduceBEq]) (by simp [badR, c1])

theorem reg11_24 {K : T → Hp → Prop} {Q' : Exit → T → Hp → Prop} (q11 : t 11 = .bool true) (q18 : t 18 = w1) (q19 : t 19 = w2) (hw1 : ao Z 1 w1 = some (nE .i64 L1)) (hw2 : ao Z 1 w2 = some (nE .i64 L2)) (hlaw : (L1 = [] ↔ L2 = []) ∧ L1.head? = L2.head?)
    (hQ : ∀ t', t' 10 = .bool true → K t' Z) : wpC Try.prog S11 Y [5] 153 (regAt Try.f11 24) true (bC K Q') t Z := by
  have hl1 := av (P := Try.prog) sl71 hw1
  have hl2 := av (P := Try.prog) sl71 hw2
  rw [az] at hl1 hl2
  cases L1 with
  | nil =>
    obtain rfl : L2 = [] := hlaw.1.1 rfl
    refine bJ 24 (by kernel_rfl) rfl rfl ?_
    repeat (first
    | ((first | refine aa rfl fun K hK => ?_ | refine aQ rfl fun K hK => ?_); simp (disch := omega) only [WW, BB, ↓ab, ↓reduceIte, Int.reduceLT, Int.reduceNeg, Int.reduceLE, Int.reduceToNat, Nat.reduceLT, Nat.reduceEqDiff, Nat.reduceAdd, Nat.reduceMul, Nat.reduceSub, Nat.reduceLeDiff, Nat.reduceBEq, q11, q18, q19, hl1, hl2, List.length_nil, decide_true, eqB4]; (first | refine hK _ _ ?_ | refine ⟨_, ⟨rfl, by first | rfl | trivial⟩, hK _ ?_⟩); clear hK) | refine quiet_skip rfl ?_ | refine bx ?_ | (refine ae ?_; simp only [TH]; first | (((repeat ((fail_if_success refine hS _ _ ?_); clear hS)); refine hS _ _ ?_); clear hS; try clear hF) | skip))
    exact hQ _ (by simp (disch := omega) only [WW, BB, ↓ab, ↓reduceIte, Int.reduceLT, Int.reduceNeg, Int.reduceLE, Int.reduceToNat, Nat.reduceLT, Nat.reduceEqDiff, Nat.reduceAdd, Nat.reduceMul, Nat.reduceSub, Nat.reduceLeDiff, Nat.reduceBEq])
  | cons e1 r1 =>
    cases L2 with
    | nil => exact absurd (hlaw.1.2 rfl) (by simp)
    | cons e2 r2 =>
      obtain rfl : e1 = e2 := by simpa using hlaw.2
      obtain ⟨p1, hp1, hpl1⟩ := idx71 hw1
      obtain ⟨p2, hp2, hpl2⟩ := idx71 hw2
      refine bJ 24 (by kernel_rfl) rfl rfl ?_
      repeat (first
    | ((first | refine aa rfl fun K hK => ?_ | refine aQ rfl fun K hK => ?_); simp (disch := omega) only [WW, BB, ↓ab, ↓reduceIte, Int.reduceLT, Int.reduceNeg, Int.reduceLE, Int.reduceToNat, Nat.reduceLT, Nat.reduceEqDiff, Nat.reduceAdd, Nat.reduceMul, Nat.reduceSub, Nat.reduceLeDiff, Nat.reduceBEq, q11, q18, q19, hl1, hl2, (dLen e1 r1).2, (dLen e1 r2).2, hp1, hpl1, hp2, hpl2, decide_true, eqB4]; (first | refine hK _ _ ?_ | refine ⟨_, ⟨rfl, by first | rfl | trivial⟩, hK _ ?_⟩); clear hK) | refine bx ?_ | (refine ae ?_; simp only [TH]; first | (((repeat ((fail_if_success refine hS _ _ ?_); clear hS)); refine hS _ _ ?_); clear hS; try clear hF) | skip))
      exact hQ _ (by simp (disch := omega) only [WW, BB, ↓ab, ↓reduceIte, Int.reduceLT, Int.reduceNeg, Int.reduceLE, Int.reduceToNat, Nat.reduceLT, Nat.reduceEqDiff, Nat.reduceAdd, Nat.reduceMul, Nat.reduceSub, Nat.reduceLeDiff, Nat.reduceBEq])
end
end Go.Av

set_option linter.unusedSimpArgs false
set_option linter.unusedVariables false
namespace Go.Av
open Go.RowKit Go.Proofs

theorem ag46 {h : Hdr} (ho : okHd h) : ldc (some (true, 68)) (hdC h) 0 = some (.agg (hdC h)) := aggAll (aX ho)
def s11 : Spec := fun _ args H Q => ∃ h v l h2 a b c, args = [.agg (hdC h ++ [v]), .agg (hdC h2), vN .u32 a, vN .u32 b, vN .u32 c] ∧ okHd h ∧ isTxs H v l ∧ 0 ≤ l.length ∧ (∀ x ∈ l, okN x) ∧ okHd h2 ∧ Q (.bool true) H

theorem snd11 : Sound Try.prog 11 s11 := by
  refine ak pm snd11S [5] Try.func11 rfl (by kernel_rfl) ?_
  rintro Y args H Q ⟨h, v, l, h2, a, b, c, rfl, hoh, hx, hl, hN, ho2, hQ⟩
  refine ⟨by simp [Try.f11], ?_⟩
  show wpC Try.prog S11 Y [5] 153 _ true (aB Try.prog [.tmp 10] Q) _ H
  have hhl := aX hoh
  have hhl2 := aX ho2
  have hx' := hx
  obtain ⟨es0, hv0, _⟩ := hx'
  have h1v := (bd hv0).1
  repeat (first
    | (refine aa rfl fun K hK => ?_; simp (disch := omega) only [WW, BB, ↓ab, simprocAttr]; refine hK _ _ ?_; clear hK) | refine af fun K hS hF => ?_ | refine ac rfl ?_)
  refine aa rfl fun K hK => ⟨hdC h2, rfl, fun bh hbh => hK _ _ ?_⟩
  clear hK
  have hX0 : hle H (upd H bh (some (.row (hdC h2)))) := ai (aj _) hbh
  have xh := ag H bh (some (.row (hdC h2)))
  generalize upd H bh (some (.row (hdC h2))) = X0 at *
  repeat (first
    | (refine aa rfl fun K hK => ?_; simp (disch := omega) only [WW, BB, ↓ab, simprocAttr]; refine hK _ _ ?_; clear hK) | (refine ae ?_; simp only [TH]; (((repeat ((fail_if_success refine hS _ _ ?_); clear hS)); refine hS _ _ ?_); clear hS; try clear hF)) | refine af fun K hS hF => ?_ | refine ac rfl ?_)
  refine aa rfl fun K hK => ⟨rfl, hK _ _ ?_⟩
  clear hK
  repeat (first
    | (refine aa rfl fun K hK => ?_; simp (disch := omega) only [WW, BB, ↓ab, simprocAttr, ty49, agg49 hoh]; refine hK _ _ ?_; clear hK) | (refine ae ?_; simp only [TH]; (((repeat ((fail_if_success refine hS _ _ ?_); clear hS)); refine hS _ _ ?_); clear hS; try clear hF)) | refine af fun K hS hF => ?_ | refine ac rfl ?_)
  refine aa rfl fun K hK => ⟨_, hdC h, l, rfl, ⟨v, rfl, hhl, bX hX0 hx⟩, hl, hN, hK _ _ ?_⟩
  clear hK
  cases hg : greatB l with
  | true =>
    rw [if_pos rfl]
    repeat (first
    | (refine aa rfl fun K hK => ?_; simp (disch := omega) only [WW, BB, ↓ab, simprocAttr, Nat.zero_lt_one, decide_true]; refine hK _ _ ?_; clear hK) | refine bl rfl ?_ | (refine ae ?_; simp only [TH]; (((repeat ((fail_if_success refine hS _ _ ?_); clear hS)); refine hS _ _ ?_); clear hS; try clear hF)))
    refine aS (by simp (disch := omega) only [WW, BB, ↓ab, simprocAttr]) ?_
    repeat (first
    | (refine aa rfl fun K hK => ?_; simp (disch := omega) only [WW, BB, ↓ab, simprocAttr]; refine hK _ _ ?_; clear hK) | (refine ae ?_; simp only [TH]; (((repeat ((fail_if_success refine hS _ _ ?_); clear hS)); refine hS _ _ ?_); clear hS; try clear hF)) | refine af fun K hS hF => ?_ | refine ac rfl ?_ | (refine al ?_; simp (disch := omega) only [TH, TE, WW, BB, ↓ab, simprocAttr]))
    exact ⟨_, rfl, [], _, hX0, hQ⟩
  | false =>
  rw [if_neg (by simp)]
  have hok := okTs_of hg
  repeat (first
    | (refine aa rfl fun K hK => ?_; simp (disch := omega) only [WW, BB, ↓ab, simprocAttr, Nat.lt_irrefl, decide_false]; refine hK _ _ ?_; clear hK) | (refine ae ?_; simp only [TH]; (((repeat ((fail_if_success refine hS _ _ ?_); clear hS)); refine hS _ _ ?_); clear hS; try clear hF)))
  refine aE (by simp (disch := omega) only [WW, BB, ↓ab, simprocAttr]) ?_
  repeat (first
    | (refine aa rfl fun K hK => ?_; simp (disch := omega) only [WW, BB, ↓ab, simprocAttr, ty49, agg49 hoh]; refine hK _ _ ?_; clear hK) | (refine am ?_; simp only [TH]; (((repeat ((fail_if_success refine hS _ _ ?_); clear hS)); refine hS _ _ ?_); clear hS; try clear hF)) | refine af fun K hS hF => ?_ | refine ac rfl ?_)
  refine aa rfl fun K hK => .inl ⟨h, v, l, rfl, hoh, bX hX0 hx, hok, fun v' hv' => hK _ _ ?_⟩
  clear hK
  obtain ⟨es', hvv, hnv', hes'⟩ := hv' X0
  have h1v' := (bd hvv).1
  clear hvv hnv' hes' es'
  have hall : (hdC h ++ [v']).all one = true := by rw [List.all_append, hdC_ones]; simp only [List.all_cons, h1v']; rfl
  have hzl := aX (rtH_ok h0_ok)
  skip
  refine aa rfl fun K hK => ⟨_, z49, fun b12 hb12 => hK _ _ ?_⟩
  clear hK
  refine aq (p := .ptr b12 0) (v := .agg (hdC h ++ [v'])) rfl rfl rfl (by simp (disch := omega) only [WW, BB, ↓ab, simprocAttr]) (by simp (disch := omega) only [WW, BB, ↓ab, simprocAttr]) (au (b := b12) (ag _ _ _) ty49 (by simp [hhl]) hall (by simp [hzl])) ?_
  rw [aD]
  have hX1 : hle H (upd X0 b12 (some (.row (hdC h ++ [v'])))) := ai hX0 (bI hX0 hb12)
  have x12 := ag X0 b12 (some (.row (hdC h ++ [v'])))
  have hne : bh ≠ b12 := fun e => by subst e; rw [xh] at hb12; cases hb12
  have xh1 : upd X0 b12 (some (.row (hdC h ++ [v']))) bh = some (.row (hdC h2)) := by rw [ah _ _ _ hne]; exact xh
  have g12H := bI hX0 hb12
  generalize upd X0 b12 (some (.row (hdC h ++ [v']))) = X1 at *
  repeat (first
    | (refine aa rfl fun K hK => ?_; simp (disch := omega) only [WW, BB, ↓ab, simprocAttr, fl49_0, fl46_2, bb, aggR hoh]; refine hK _ _ ?_; clear hK) | (refine ae ?_; simp only [TH]; (((repeat ((fail_if_success refine hS _ _ ?_); clear hS)); refine hS _ _ ?_); clear hS; try clear hF)) | refine af fun K hS hF => ?_ | refine ac rfl ?_)
  refine aq (p := .ptr bh 33) (v := .agg (nR .u8 h.root)) rfl rfl rfl (by simp (disch := omega) only [WW, BB, ↓ab, simprocAttr]) (by simp (disch := omega) only [WW, BB, ↓ab, simprocAttr]) (store_hroot xh1 ho2 hoh.2.1.1) ?_
  have ho3 : okHd { h2 with root := h.root } := ⟨ho2.1, hoh.2.1, ho2.2.2⟩
  have hX2 : hle H (upd X1 bh (some (.row (hdC { h2 with root := h.root })))) := ai hX1 hbh
  have xh2 := ag X1 bh (some (.row (hdC { h2 with root := h.root })))
  have x12b : upd X1 bh (some (.row (hdC { h2 with root := h.root }))) b12 = some (.row (hdC h ++ [v'])) := by rw [ah _ _ _ (Ne.symm hne)]; exact x12
  clear xh1 x12 xh
  generalize upd X1 bh (some (.row (hdC { h2 with root := h.root }))) = X2 at *
  have hhl3 := aX ho3
  have ld3 : ((aK X2 (.ptr bh 0)).bind fun x => ldc (tyT Try.prog 46) x.1 x.2) = some (.agg (hdC { h2 with root := h.root })) := aJ xh2 ty46 hhl3
  have hr3 : ({ h2 with root := h.root } : Hdr).root = h.root := rfl
  generalize ({ h2 with root := h.root } : Hdr) = h3 at *
  repeat (first
    | (refine aa rfl fun K hK => ?_; simp (disch := omega) only [WW, BB, ↓ab, simprocAttr, ld3, fl49_0]; refine hK _ _ ?_; clear hK) | (refine ae ?_; simp only [TH]; (((repeat ((fail_if_success refine hS _ _ ?_); clear hS)); refine hS _ _ ?_); clear hS; try clear hF)) | refine af fun K hS hF => ?_ | refine ac rfl ?_)
  refine aq (p := .ptr b12 0) (v := .agg (hdC h3)) rfl rfl rfl (by simp (disch := omega) only [WW, BB, ↓ab, simprocAttr]) (by simp (disch := omega) only [WW, BB, ↓ab, simprocAttr]) (store_hdr x12b hoh ho3) ?_
  have hX3 : hle H (upd X2 b12 (some (.row (hdC h3 ++ [v'])))) := ai hX2 g12H
  have x12c := ag X2 b12 (some (.row (hdC h3 ++ [v'])))
  clear x12b xh2 ld3
  generalize upd X2 b12 (some (.row (hdC h3 ++ [v']))) = X3 at *
  have ld4 : ((aK X3 (.ptr b12 0)).bind fun x => ldc (tyT Try.prog 49) x.1 x.2) = some (.agg (hdC h3 ++ [v'])) := aJ x12c ty49 (by simp [hhl3])
  repeat (first
    | (refine ae ?_; simp only [TH]; (((repeat ((fail_if_success refine hS _ _ ?_); clear hS)); refine hS _ _ ?_); clear hS; try clear hF)) | refine af fun K hS hF => ?_)
  refine bJ 4 (by kernel_rfl) rfl rfl ?_
  repeat (refine aQ rfl fun K hK => ?_; simp (disch := omega) only [WW, BB, ↓ab, simprocAttr, ld4]; refine ⟨_, ⟨rfl, by first | rfl | trivial⟩, hK _ ?_⟩; clear hK)
  refine aQ rfl fun K hK => ⟨vN .i64 (bY h.root l), ⟨h3, v', l, rfl, ho3, hv' _, hok, by rw [hr3]; exact ⟨rfl, rfl⟩⟩, hK _ ?_⟩
  clear hK
  repeat (refine aQ rfl fun K hK => ?_; simp (disch := omega) only [WW, BB, ↓ab, simprocAttr, ty49, agg49 hoh]; refine ⟨_, ⟨rfl, by first | rfl | trivial⟩, hK _ ?_⟩; clear hK)
  refine aQ rfl fun K hK => ⟨vN .i64 (bY h.root l), ⟨h, v, l, rfl, hoh, bX hX3 hx, hok, ⟨rfl, rfl⟩⟩, hK _ ?_⟩
  clear hK
  repeat (first
    | (refine aa rfl fun K hK => ?_; simp (disch := omega) only [WW, BB, ↓ab, simprocAttr, ne_eq, not_true, decide_false]; refine hK _ _ ?_; clear hK) | refine bx ?_ | (refine ae ?_; simp only [TH]; (((repeat ((fail_if_success refine hS _ _ ?_); clear hS)); refine hS _ _ ?_); clear hS; try clear hF)))
  refine aE (by simp (disch := omega) only [WW, BB, ↓ab, simprocAttr]) ?_
  repeat (first
    | (refine am ?_; simp only [TH]; (((repeat ((fail_if_success refine hS _ _ ?_); clear hS)); refine hS _ _ ?_); clear hS; try clear hF)) | refine af fun K hS hF => ?_)
  refine reg11_9 (a := a) (b := b) (c := c) (h := h) (v := v) (l := l) (keep ?_ ?_ ?_ ?_ ?_ ?_) hoh (bX hX3 hx) hok fun t4 X4 c1 c2 w fs ks hlv q13 q14 hX4 x1 x2 g1 g2 hne12 hokO hrows => hS _ _ ?_
  · simp (disch := omega) only [WW, BB, ↓ab, simprocAttr]
  · simp (disch := omega) only [WW, BB, ↓ab, simprocAttr]
  · simp (disch := omega) only [WW, BB, ↓ab, simprocAttr]
  · simp (disch := omega) only [WW, BB, ↓ab, simprocAttr]
  · simp (disch := omega) only [WW, BB, ↓ab, simprocAttr]
  · simp (disch := omega) only [WW, BB, ↓ab, simprocAttr]
  clear hS hF
  obtain ⟨k2, k3, k4, k5, k11, k10⟩ := hlv
  have ldw : ((aK X4 (.ptr c2 68)).bind fun x => ldc (tyT Try.prog 47) x.1 x.2) = some w := aw x2 ty47 (by rw [List.getElem?_append_right (by omega), hhl]; rfl)
  have hwt := rows_txs hokO hrows
  obtain ⟨esw, hvw, _, hesw⟩ := hwt
  have hlw := av (P := Try.prog) sl47 hvw
  rw [hesw.1] at hlw
  repeat (first
    | (refine aa rfl fun K hK => ?_; simp (disch := omega) only [WW, BB, ↓ab, simprocAttr, q14, bu, ldw, hlw]; refine hK _ _ ?_; clear hK) | (refine ae ?_; simp only [TH]; (((repeat ((fail_if_success refine hS _ _ ?_); clear hS)); refine hS _ _ ?_); clear hS; try clear hF)) | refine af fun K hS hF => ?_ | refine ac rfl ?_ | refine ax ?_)
  refine l11o (a := a) (b := b) (c := c) (c2 := c2) (h := h) (w := w) (fs := fs) (ks := ks) (l := l) ?_ ?_ ?_ ?_ ?_ ?_ hoh hok hX4 x2 hokO hrows fun t5 X5 fs5 hk5 hX5 hrow5 hokO5 hrows5 => ?_
  · simp (disch := omega) only [WW, BB, ↓ab, simprocAttr, k2]
  · simp (disch := omega) only [WW, BB, ↓ab, simprocAttr, k3]
  · simp (disch := omega) only [WW, BB, ↓ab, simprocAttr, k4]
  · simp (disch := omega) only [WW, BB, ↓ab, simprocAttr, q14]
  · simp (disch := omega) only [WW, BB, ↓ab, simprocAttr]
  · simp (disch := omega) only [WW, BB, ↓ab, simprocAttr]
  (simp only [TH, ↓reduceIte, Nat.reduceEqDiff]; ((repeat ((fail_if_success refine hS _ _ ?_); clear hS)); refine hS _ _ ?_); clear hS; try clear hF)
  have hHX5 : hle H X5 := bn hX3 hX5
  have hrl : ∀ l, (hdC (rtH (aM l))).length = 68 := fun l => aX (rtH_ok (rootR_ok (idsL_H l)))
  repeat refine af fun K hS hF => ?_
  refine reg11_21 (c1 := c1) (c2 := c2) (h := h) (v := v) (w := w) (l := l) (l' := mL a c b l) ?_ ?_ ?_ (hrow5 _ _ x1) (hrow5 _ _ x2) hoh (bX hHX5 hx) (rows_txs hokO5 hrows5) hok (mL_ok hok) fun t6 w1 w2 r11 r18 r19 hw1 hw2 => hS _ _ ?_
  · rw [hk5 11 (by omega)]; simp (disch := omega) only [WW, BB, ↓ab, simprocAttr, k11]
  · rw [hk5 13 (by omega)]; simp (disch := omega) only [WW, BB, ↓ab, simprocAttr, q13]
  · rw [hk5 14 (by omega)]; simp (disch := omega) only [WW, BB, ↓ab, simprocAttr, q14]
  clear hS hF
  have hlaw := carried_law (ver := a) (lock := c) (seq := b) l
  generalize allR (aM l) l = L1 at *
  generalize allR (aM (mL a c b l)) (mL a c b l) = L2 at *
  refine af fun K hS hF => ?_
  refine af fun K2 hS2 hF2 => ?_
  refine reg11_22 r11 r18 r19 hw1 hw2 fun t7 u11 u18 u19 u127 => hS2 _ _ ?_
  clear hS2 hF2
  cases hb : (badR L1 || badR L2) with
  | true =>
    rw [hb] at u127
    refine aS u127 ?_
    repeat (first
    | (refine aa rfl fun K hK => ?_; simp (disch := omega) only [WW, BB, ↓ab, simprocAttr, u11]; refine hK _ _ ?_; clear hK) | (refine ae ?_; simp only [TH]; (((repeat ((fail_if_success refine hS _ _ ?_); clear hS)); refine hS _ _ ?_); clear hS; try clear hF)) | refine af fun K hS hF => ?_ | refine ac rfl ?_ | (refine al ?_; simp (disch := omega) only [TH, TE, WW, BB, ↓ab, simprocAttr, u11]))
    exact ⟨_, rfl, [], _, hHX5, hQ⟩
  | false =>
    rw [hb] at u127
    simp only [Bool.or_eq_false_iff] at hb
    refine aE u127 ?_
    refine am ?_
    (simp only [TH, ↓reduceIte, Nat.reduceEqDiff]; ((repeat ((fail_if_success refine hS _ _ ?_); clear hS)); refine hS _ _ ?_); clear hS; try clear hF)
    refine af fun K hS hF => ?_
    refine reg11_24 u11 u18 u19 hw1 hw2 (hlaw hb.1 hb.2) fun t8 y10 => hS _ _ ?_
    clear hS hF
    repeat (refine al ?_; simp (disch := omega) only [TH, TE, WW, BB, ↓ab, simprocAttr, y10])
    exact ⟨_, rfl, [], _, hHX5, hQ⟩
end Go.Av
