/-
  Abstract values: 'pval' is what the machine does: two operands, one operand, conversions.
-/
import Derived.Test.YtgjlmmjdofceiaaAv3
namespace Go.Av
open Go.RowKit

theorem arith_sound {P : Program} {k : K} {w : World} {op : BinOp} {t : TypeId} {i j : IntKind} {a b : Int} {z : V} (hij : isShift op = true ∨ i = j) (h : arith op i a b = some z) :
    ∃ r, (Go.binOp op t (.int i a) (.int j b)).run P w = .ok r w ∧ Conc k r z := by
  cases op
  case shl =>
    simp only [arith] at h
    split at h
    · cases h
    · rename_i hb
      cases h
      exact ⟨_, by simp [Go.binOp, Op.shift, hb], .int _ _⟩
  case shr =>
    simp only [arith] at h
    split at h
    · cases h
    · rename_i hb
      cases h
      exact ⟨_, by simp [Go.binOp, Op.shift, hb], .int _ _⟩
  all_goals
    have hij : i = j := by simpa [isShift] using hij
    subst hij
    simp only [arith] at h
  case quo =>
    split at h
    · cases h
    · rename_i hb
      cases h
      exact ⟨_, by simp [Go.binOp, Op.intDiv, hb], .int _ _⟩
  case rem =>
    split at h
    · cases h
    · rename_i hb
      cases h
      exact ⟨_, by simp [Go.binOp, Op.intDiv, hb], .int _ _⟩
  all_goals cases h
  case add => exact ⟨_, by simp [Go.binOp, Op.intArith], .int _ _⟩
  case sub => exact ⟨_, by simp [Go.binOp, Op.intArith], .int _ _⟩
  case mul => exact ⟨_, by simp [Go.binOp, Op.intArith], .int _ _⟩
  case and => exact ⟨_, by simp only [Go.binOp, ne_eq, not_true_eq_false, ↓reduceIte]; rfl, .int _ _⟩
  case or => exact ⟨_, by simp only [Go.binOp, ne_eq, not_true_eq_false, ↓reduceIte]; rfl, .int _ _⟩
  case xor => exact ⟨_, by simp only [Go.binOp, ne_eq, not_true_eq_false, ↓reduceIte]; rfl, .int _ _⟩
  case andNot => exact ⟨_, by simp only [Go.binOp, ne_eq, not_true_eq_false, ↓reduceIte]; rfl, .int _ _⟩
  all_goals exact ⟨_, by simp [Go.binOp, Op.intCmp], .bool _⟩

theorem strOp_sound {P : Program} {k : K} {w : World} {op : BinOp} {t : TypeId} {a b : ByteArray} {z : V} (h : strOp op a b = some z) :
    ∃ r, (Go.binOp op t (.string a) (.string b)).run P w = .ok r w ∧ Conc k r z := by
  cases op <;> simp only [strOp] at h
  case add =>
    split at h
    · cases h
    · rename_i hb
      cases h
      exact ⟨_, by simp only [Go.binOp, Op.stringOp]; rw [if_neg hb]; rfl, .str _⟩
  case eql => cases h; exact ⟨_, rfl, .bool _⟩
  case neq => cases h; exact ⟨_, rfl, .bool _⟩
  all_goals cases h

theorem eqop_sound {P : Program} {k : K} {w : World} {op : BinOp} {t : TypeId} {v u : Value} {r : Bool} {z : V} (hv : ∀ i a, v ≠ .int i a) (hs : ∀ s, v ≠ .string s) (hf : ∀ i a, v ≠ .float i a) (hcx : ∀ i a b, v ≠ .complex i a b)
    (he : (Op.equal t v u).run P w = .ok r w) (h : eqop op r = some z) : ∃ q, (Go.binOp op t v u).run P w = .ok q w ∧ Conc k q z := by
  cases op <;> simp only [eqop] at h <;> cases h
  · refine ⟨.bool r, ?_, .bool _⟩
    cases v <;> first
      | exact absurd rfl (hv _ _)
      | exact absurd rfl (hs _)
      | exact absurd rfl (hf _ _)
      | exact absurd rfl (hcx _ _ _)
      | simp [Go.binOp, he]
  · refine ⟨.bool !r, ?_, .bool _⟩
    cases v <;> first
      | exact absurd rfl (hv _ _)
      | exact absurd rfl (hs _)
      | exact absurd rfl (hf _ _)
      | exact absurd rfl (hcx _ _ _)
      | simp [Go.binOp, he]

theorem run_eqGuard_other {P : Program} {w : World} (op : BinOp) (t : TypeId) (ox oy : Operand) {v u : Value} (h1 : v ≠ .nilIface) (h2 : ∀ cs, v ≠ .agg cs) : (eqGuard op t ox oy v u).run P w = .ok () w := by
  cases v <;> first | exact absurd rfl h1 | exact absurd rfl (h2 _) | (simp only [eqGuard]; cases op <;> rfl)

theorem cellEq_iff : ∀ (x y : V) (v u : Value), toVal x = some v → toVal y = some u → (cellEq x y = true ↔ v = u) := by
  intro x y v u hx hy
  cases x <;> cases y <;> simp [toVal] at hx hy <;> subst hx <;> subst hy <;> simp [cellEq]

theorem eqC_iff : ∀ (xs ys : List V) (vs us : List Value), toVals xs = some vs → toVals ys = some us → (eqC xs ys = true ↔ vs = us)
  | [], [], vs, us, hx, hy => by simp [toVals] at hx hy; subst hx; subst hy; simp [eqC]
  | [], y :: ys, vs, us, hx, hy => by
    simp only [toVals] at hx hy
    cases hx
    split at hy
    · cases hy; simp [eqC]
    · cases hy
  | x :: xs, [], vs, us, hx, hy => by
    simp only [toVals] at hx hy
    cases hy
    split at hx
    · cases hx; simp [eqC]
    · cases hx
  | x :: xs, y :: ys, vs, us, hx, hy => by
    simp only [toVals] at hx hy
    split at hx
    · rename_i v vs' h1 h2
      cases hx
      split at hy
      · rename_i u us' h3 h4
        cases hy
        simp only [eqC, Bool.and_eq_true, List.cons.injEq, cellEq_iff x y v u h1 h3, eqC_iff xs ys vs' us' h2 h4]
      · cases hy
    · cases hx

theorem keyLits_len {P : Program} {t : TypeId} (hw : (match P.underlying t with | some (.array _ _) | some (.struct _) => true | _ => false) = true) {d : Nat} {vs : List Value} {l : List Lit} (h : P.keyLits d t vs = some l) : vs.length = P.cellsOf t := by
  cases d with
  | zero => simp [Program.keyLits] at h
  | succ d =>
    unfold Program.keyLits at h
    cases hu : P.underlying t with
    | none => simp [hu] at hw
    | some u =>
      rw [hu] at h hw
      cases u <;> simp at hw
      case array n e => simp only at h; split at h <;> first | (rename_i hl; exact hl) | cases h
      case struct fs => simp only at h; split at h <;> first | (rename_i hl; exact hl.1) | cases h

theorem aggEq_run {P : Program} {k : K} {w : World} {t : TypeId} {cs ds : Array Value} {xs ys : List V} (ht : aggEqT P t = true) (hx : ConcL k cs xs) (hy : ConcL k ds ys)
    (lx : (litsV P t xs).isSome = true) (ly : (litsV P t ys).isSome = true) : (Op.equal t (.agg cs) (.agg ds)).run P w = .ok (eqC xs ys) w := by
  simp only [aggEqT, Bool.and_eq_true] at ht
  obtain ⟨⟨⟨h1, h2⟩, _⟩, h3⟩ := ht
  have hwide : (match P.underlying t with | some (.array _ _) | some (.struct _) => true | _ => false) = true := h3
  unfold litsV at lx ly
  cases ex : toVals xs with
  | none => simp [ex] at lx
  | some vs =>
    cases ey : toVals ys with
    | none => simp [ey] at ly
    | some us =>
      simp only [ex, ey, Option.bind_some, Option.isSome_iff_exists] at lx ly
      obtain ⟨la, hla⟩ := lx
      obtain ⟨lb, hlb⟩ := ly
      have e1 : cs.toList = vs := toVals_conc xs _ vs (by simp [hx.1]) (fun j v x a b => hx.2 j v x (by simpa using a) b) ex
      have e2 : ds.toList = us := toVals_conc ys _ us (by simp [hy.1]) (fun j v x a b => hy.2 j v x (by simpa using a) b) ey
      have f1 : (Value.agg cs).formed P t = true := by
        have := keyLits_len hwide hla
        rw [← e1, Array.length_toList] at this
        cases hu : P.underlying t with
        | none => simp [hu] at hwide
        | some u => rw [hu] at hwide; cases u <;> simp_all [Value.formed]
      have f2 : (Value.agg ds).formed P t = true := by
        have := keyLits_len hwide hlb
        rw [← e2, Array.length_toList] at this
        cases hu : P.underlying t with
        | none => simp [hu] at hwide
        | some u => rw [hu] at hwide; cases u <;> simp_all [Value.formed]
      obtain ⟨r, hr, hiff⟩ := run_equalIn_deep (P := P) 9980 20 t h1 w 20 20 (.agg cs) (.agg ds) la lb f1 f2 (by simpa [Value.cells, e1] using hla) (by simpa [Value.cells, e2] using hlb)
      have : r = eqC xs ys := by
        have c1 := cells_of_lits 20 t h2 20 vs la hla
        have c2 := cells_of_lits 20 t h2 20 us lb hlb
        rw [Bool.eq_iff_iff, hiff, eqC_iff xs ys vs us ex ey]
        constructor
        · rintro rfl; rw [c1, c2]
        · intro e
          rw [← e] at hlb
          have : some la = some lb := hla.symm.trans hlb
          exact Option.some.inj this
      rw [← this]
      exact hr

theorem nkT_p {P : Program} {t : TypeId} (h : nkT P t = some .p) : ∃ e, P.underlying t = some (.pointer e) := by
  unfold nkT at h
  split at h <;> first | exact ⟨_, by assumption⟩ | cases h
theorem nkT_s {P : Program} {t : TypeId} (h : nkT P t = some .s) : ∃ e, P.underlying t = some (.slice e) := by
  unfold nkT at h
  split at h <;> first | exact ⟨_, by assumption⟩ | cases h
theorem nkT_f {P : Program} {t : TypeId} (h : nkT P t = some .f) : ∃ a b c, P.underlying t = some (.func a b c) := by
  unfold nkT at h
  split at h <;> first | exact ⟨_, _, _, by assumption⟩ | cases h
theorem nkT_m {P : Program} {t : TypeId} (h : nkT P t = some .m) : ∃ a b, P.underlying t = some (.map a b) := by
  unfold nkT at h
  split at h <;> first | exact ⟨_, _, by assumption⟩ | cases h

/-- What the nil kinds look like beneath. -/
inductive NilLike : NK → Bool → Value → Prop
  | p (a : Option Addr) : NilLike .p a.isNone (.pointer a)
  | s (a : Option Addr) (l c : Nat) : NilLike .s a.isNone (.slice a l c)
  | f1 : NilLike .f true .nilFunc
  | f2 (f : Fn) (a b : Array Value) : NilLike .f false (.func f a b)
  | m (a : Option Nat) : NilLike .m a.isNone (.map a)

theorem nilLike_of {k : K} {v : Value} {x : V} {n : NK} {r : Bool} (hx : Conc k v x) (h : nkV x = some n) (hq : nilq x = some r) : NilLike n r v := by
  cases hx <;> simp only [nkV, nilq, Option.some.injEq, reduceCtorEq] at h hq <;> try (subst h; subst hq)
  case nilp => exact .p none
  case ptr => exact .p (some _)
  case eptr => exact .p (some _)
  case cptr => exact .p (some _)
  case nils => exact .s none 0 0
  case sl b off cap sz es full vs hsz hcap hf hM hc => cases es <;> simp at hq; subst hq; subst h; exact .s (some _) _ _
  case osl => exact .s (some _) _ _
  case rsl => exact .s (some _) _ _
  case fn => exact .f2 _ _ _
  case niln => exact .f1
  case mp => exact .m (some _)
  case nilm => exact .m none

theorem isNil_q {x : V} (h : isNil x = true) : nilq x = some true := by
  cases x <;> simp [isNil] at h <;> rfl

theorem nil_run' {P : Program} {w : World} {t : TypeId} {v u : Value} {n : NK} {r s : Bool} (d : Nat) (hn : nkT P t = some n) (hv : NilLike n r v) (hu : NilLike n s u) :
    (s = true → (Op.equalIn (d + 1) t v u).run P w = .ok r w) ∧ (r = true → (Op.equalIn (d + 1) t v u).run P w = .ok s w) := by
  cases hv with
  | p a =>
    obtain ⟨e, he⟩ := nkT_p hn
    cases hu with
    | p b => cases a <;> cases b <;> simp [Op.equalIn, run_underlying he]
  | s a l c =>
    obtain ⟨e, he⟩ := nkT_s hn
    cases hu with
    | s b => cases a <;> cases b <;> simp [Op.equalIn, run_underlying he]
  | f1 =>
    obtain ⟨a, b, c, he⟩ := nkT_f hn
    cases hu <;> simp [Op.equalIn, run_underlying he]
  | f2 =>
    obtain ⟨a, b, c, he⟩ := nkT_f hn
    cases hu <;> simp [Op.equalIn, run_underlying he]
  | m a =>
    obtain ⟨e, c, he⟩ := nkT_m hn
    cases hu with
    | m b => cases a <;> cases b <;> simp [Op.equalIn, run_underlying he]

theorem nilLike_bin {P : Program} {k : K} {w : World} {op : BinOp} {t : TypeId} {v u : Value} {n : NK} {r s q : Bool} {z : V} (ox oy : Operand) (hn : nkT P t = some n) (hv : NilLike n r v) (hu : NilLike n s u)
    (hq : (s = true ∧ q = r) ∨ (r = true ∧ q = s)) (h : eqop op q = some z) : ∃ c, ((do eqGuard op t ox oy v u; Go.binOp op t v u) : Sem Value).run P w = .ok c w ∧ Conc k c z := by
  have he : (Op.equal t v u).run P w = .ok q w := by
    obtain ⟨h1, h2⟩ := nil_run' (P := P) (w := w) 9999 hn hv hu
    rcases hq with ⟨a, rfl⟩ | ⟨a, rfl⟩
    · exact h1 a
    · exact h2 a
  have hg : (eqGuard op t ox oy v u).run P w = .ok () w := run_eqGuard_other op t ox oy (by cases hv <;> simp) (by cases hv <;> simp)
  obtain ⟨c, hc, hcc⟩ := eqop_sound (k := k) (by cases hv <;> simp) (by cases hv <;> simp) (by cases hv <;> simp) (by cases hv <;> simp) he h
  exact ⟨c, by simp [hg, hc], hcc⟩

theorem binV_sound {P : Program} {k : K} {w : World} {op : BinOp} {t : TypeId} {v u : Value} {x y z : V} (ox oy : Operand) (hx : Conc k v x) (hy : Conc k u y) (h : binV P op t x y = some z) :
    ∃ c, ((do eqGuard op t ox oy v u; Go.binOp op t v u) : Sem Value).run P w = .ok c w ∧ Conc k c z := by
  unfold binV at h
  split at h
  · rename_i i a j b
    cases hx; cases hy
    have hg : (eqGuard op t ox oy (.int i a) (.int j b)).run P w = .ok () w := run_eqGuard_other op t ox oy (by simp) (by simp)
    split at h
    · obtain ⟨c, hc, hcc⟩ := arith_sound (P := P) (k := k) (w := w) (t := t) (j := j) (.inl ‹_›) h
      exact ⟨c, by simp [hg, hc], hcc⟩
    · split at h
      · obtain ⟨c, hc, hcc⟩ := arith_sound (P := P) (k := k) (w := w) (t := t) (.inr ‹_›) h
        exact ⟨c, by simp [hg, hc], hcc⟩
      · cases h
  · cases hx; cases hy
    rename_i a b
    have hg : (eqGuard op t ox oy (.string a) (.string b)).run P w = .ok () w := run_eqGuard_other op t ox oy (by simp) (by simp)
    obtain ⟨c, hc, hcc⟩ := strOp_sound (P := P) (k := k) (w := w) (t := t) h
    exact ⟨c, by simp [hg, hc], hcc⟩
  · cases hx; cases hy
    rename_i a b
    split at h
    · rename_i hu
      have hg : (eqGuard op t ox oy (.bool a) (.bool b)).run P w = .ok () w := run_eqGuard_other op t ox oy (by simp) (by simp)
      have he : (Op.equal t (.bool a) (.bool b)).run P w = .ok (a == b) w := run_equal_bool w t a b hu
      obtain ⟨c, hc, hcc⟩ := eqop_sound (k := k) (by simp) (by simp) (by simp) (by simp) he h
      exact ⟨c, by simp [hg, hc], hcc⟩
    · cases h
  · split at h
    · rename_i xs ys hcond
      obtain ⟨ht, lx, ly⟩ := hcond
      cases hx with
      | agg cs _ hl1 hc1 =>
        cases hy with
        | agg ds _ hl2 hc2 =>
          have he := aggEq_run (w := w) ht ⟨hl1, hc1⟩ ⟨hl2, hc2⟩ lx ly
          have hgt : P.eqGuardType P.depth t = false := by
            simp only [aggEqT, Bool.and_eq_true, Bool.not_eq_true'] at ht
            exact ht.1.2
          have hg : (eqGuard op t ox oy (.agg cs) (.agg ds)).run P w = .ok () w := run_eqGuard_agg w op t ox oy cs ds hgt
          obtain ⟨c, hc, hcc⟩ := eqop_sound (k := k) (by simp) (by simp) (by simp) (by simp) he h
          exact ⟨c, by simp [hg, hc], hcc⟩
    · cases h
  · split at h
    · cases h
    · rename_i hn
      split at h
      · cases h
      · rename_i hk
        have hk1 : nkV x = nkT P t := by
          cases h' : decide (nkV x = nkT P t) with
          | true => simpa using h'
          | false => exact absurd (.inl (by simpa using h')) hk
        have hk2 : nkV y = nkT P t := by
          cases h' : decide (nkV y = nkT P t) with
          | true => simpa using h'
          | false => exact absurd (.inr (by simpa using h')) hk
        obtain ⟨n, hn'⟩ := Option.ne_none_iff_exists'.1 hn
        rw [hn'] at hk1 hk2
        split at h
        · rename_i hy'
          obtain ⟨r, hr, hz⟩ := Option.bind_eq_some_iff.1 h
          exact nilLike_bin ox oy hn' (nilLike_of hx hk1 hr) (nilLike_of hy hk2 (isNil_q hy')) (.inl ⟨rfl, rfl⟩) hz
        · split at h
          · rename_i hx'
            obtain ⟨r, hr, hz⟩ := Option.bind_eq_some_iff.1 h
            exact nilLike_bin ox oy hn' (nilLike_of hx hk1 (isNil_q hx')) (nilLike_of hy hk2 hr) (.inr ⟨rfl, rfl⟩) hz
          · cases h

theorem unV_sound {P : Program} {k : K} {w : World} {op : UnOp} {v : Value} {x z : V} (hx : Conc k v x) (h : unV op x = some z) : ∃ c, (Op.unary op v).run P w = .ok c w ∧ Conc k c z := by
  unfold unV at h
  split at h
  · cases hx
    split at h
    · cases h; exact ⟨_, rfl, .bool _⟩
    · cases h
  · cases hx
    split at h
    · cases h; exact ⟨_, rfl, .int _ _⟩
    · cases h; exact ⟨_, rfl, .int _ _⟩
    · cases h
  · cases h

theorem intT_spec {P : Program} {t : TypeId} {i : IntKind} (h : intT P t = some i) : P.underlying t = some (.int i) := by
  unfold intT at h
  split at h
  · cases h; assumption
  · cases h

theorem convV_sound {P : Program} {k : K} {w : World} {src dst : TypeId} {v : Value} {x z : V} (hx : Conc k v x) (h : convV P src dst x = some z) : ∃ c, (convert src dst v).run P w = .ok c w ∧ Conc k c z := by
  unfold convV at h
  split at h
  · cases hx
    split at h
    · rename_i hs
      obtain ⟨d, hd⟩ := Option.isSome_iff_exists.1 hs
      simp only [Option.map_eq_some_iff] at h
      obtain ⟨i, hi, rfl⟩ := h
      exact ⟨_, by simp [convert, run_underlying hd, run_underlying (intT_spec hi), Conv.intToInt], .int _ _⟩
    · cases h
  · cases h

end Go.Av
