/-
  Abstract values: the slots of a frame, and a region in the text's order.
-/
import Derived.Test.YtgjlmmjdofceiaaAv12
namespace Go.Av
open Go.RowKit

abbrev T := Nat → V

def evT (t : T) : Operand → V
  | .tmp i => t i
  | .const v => ofVal v
  | .global g => .ptr g 0
  | .func f => .fn (.func f) [] []

def putT (n : Nat) (t : T) : Option Tmp → V → T
  | some d, x => if d < n then upd t d x else t
  | none, _ => t

def RelT (k : K) (n : Nat) (a : Act) (t : T) : Prop := a.tmps.size = n ∧ ∀ i, Conc k (a.tmps.getD i undef) (t i)

theorem RelT.eval {k : K} {n : Nat} {a : Act} {t : T} (h : RelT k n a t) (x : Operand) : Conc k (a.eval x) (evT t x) := by
  cases x with
  | tmp i => exact h.2 i
  | const v => exact ofVal_conc k v
  | global g => exact .ptr g 0
  | func f => exact .fn _ #[] #[] [] [] rfl rfl (fun j v x hj _ => by simp at hj) (fun j v x hj _ => by simp at hj)

theorem RelT.mono {k k' : K} (hk : k.le k') {n : Nat} {a : Act} {t : T} (h : RelT k n a t) : RelT k' n a t := ⟨h.1, fun i => (h.2 i).mono hk⟩

theorem RelT.put {k : K} {n : Nat} {a : Act} {t : T} (h : RelT k n a t) {v : Value} {x : V} (hc : Conc k v x) (d : Option Tmp) : RelT k n (a.put d v) (putT n t d x) := by
  obtain ⟨h1, h2⟩ := h
  cases d with
  | none => exact ⟨h1, h2⟩
  | some d =>
    refine ⟨by simp [Act.put, h1], fun i => ?_⟩
    unfold putT
    simp only [Act.put]
    by_cases hd : d < n
    · rw [if_pos hd]
      by_cases hi : i = d
      · subst hi
        rw [upd_same]
        have : (a.tmps.setIfInBounds i v).getD i undef = v := by simp [h1, hd]
        rw [this]; exact hc
      · rw [upd_ne _ _ _ hi]
        have : (a.tmps.setIfInBounds d v).getD i undef = a.tmps.getD i undef := by
          rw [Array.getD_eq_getD_getElem?, Array.getD_eq_getD_getElem?, Array.getElem?_setIfInBounds_ne (Ne.symm hi)]
        rw [this]; exact h2 i
    · rw [if_neg hd, Array.setIfInBounds_eq_of_size_le (by rw [h1]; exact Nat.le_of_not_lt hd)]
      exact h2 i

theorem put_dfs (a : Act) (d : Option Tmp) (v : Value) : (a.put d v).defers = a.defers := by cases d <;> rfl

/-- Is it carried out? -/
def wantedV (ops : Array Oper) (t : T) : Option (Nat × Bool) → Option Bool
  | none => some true
  | some (j, want) => match (ops[j]?).bind (·.dst) with
    | none => some false
    | some d => match t d with
      | .bool b => some (b == want)
      | .tup [] => some false
      | _ => none

theorem wantedV_sound {k : K} {n : Nat} {a : Act} {t : T} (h : RelT k n a t) {ops : Array Oper} {o : Oper} {b : Bool} (hw : wantedV ops t o.guard = some b) : Region.wanted o (yielded ops a.tmps) = b := by
  unfold wantedV at hw
  unfold Region.wanted
  split at hw
  · rename_i hg; rw [hg]; cases hw; rfl
  · rename_i j want hg
    rw [hg]
    simp only
    unfold yielded
    split at hw
    · rename_i hd; cases hw; simp [hd]
    · rename_i d hd
      rw [hd]
      simp only [Option.bind_some]
      have hc := h.2 d
      split at hw
      · rename_i c ht
        rw [ht] at hc
        cases hw
        have hlt : d < a.tmps.size := by
          apply Classical.byContradiction
          intro hn
          rw [Array.getD_eq_getD_getElem?, Array.getElem?_eq_none (Nat.le_of_not_lt hn)] at hc
          cases hc
        rw [Array.getD_eq_getD_getElem?, Array.getElem?_eq_getElem hlt] at hc
        rw [Array.getElem?_eq_getElem hlt]
        simp only [Option.getD_some] at hc
        generalize a.tmps[d] = v at hc
        cases hc
        cases c <;> cases want <;> rfl
      · rename_i ht
        rw [ht] at hc
        cases hw
        cases hlt : a.tmps[d]? with
        | none => rfl
        | some v =>
          rw [Array.getD_eq_getD_getElem?, hlt] at hc
          simp only [Option.getD_some] at hc
          cases hc
          rfl
      · cases hw

/-- What is so of the state behind a piece of the walk. -/
def StPost (k : K) (H : Hp) (w : World) (n : Nat) (ds : List Deferred) (Q : T → Hp → Prop) (a' : Act) (w' : World) : Prop :=
  ∃ t' H' k', Q t' H' ∧ k.le k' ∧ Rel k' H' w' ∧ RelT k' n a' t' ∧ Fr H w H' w' ∧ a'.defers = ds

theorem StPost.trans {k k₁ : K} {H H₁ : Hp} {w w₁ : World} {n : Nat} {ds : List Deferred} {Q : T → Hp → Prop} {a' : Act} {w' : World} (hk : k.le k₁) (hf : Fr H w H₁ w₁) (h : StPost k₁ H₁ w₁ n ds Q a' w') : StPost k H w n ds Q a' w' := by
  obtain ⟨t', H', k', a, b, c, d, e, f⟩ := h
  exact ⟨t', H', k', a, hk.trans b, c, d, hf.trans e, f⟩

section
variable (P : Program) (S : Nat → Spec) (Y : YEnv) (O : List Nat) (n : Nat)

def owned (O : List Nat) (o : Oper) : Bool := match o.dst with
  | some d => O.contains d
  | none => false

def wpOps (ops : Array Oper) : List Oper → T → Hp → (T → Hp → Prop) → Prop
  | [], t, H, Q => Q t H
  | o :: r, t, H, Q => match wantedV ops t o.guard with
    | some b => (b = true → wpOp P S Y (owned O o) H (evT t) o.op (fun x H' => wpOps ops r (putT n t o.dst x) H' Q)) ∧ (b = false → wpOps ops r (putT n t o.dst (.tup [])) H Q)
    | none => False
end

section
variable {P : Program} {S : Nat → Spec} {Y : YEnv} {O : List Nat} {n : Nat} {ro : Option Nat}

theorem wpOpT_sound (hS : TSound P S) {k : K} (hY : YSound P k Y) {H : Hp} {w : World} (hr : Rel k H w) {a : Act} {t : T} (hT : RelT k n a t) {own : Bool} {o : Oper} {Q : T → Hp → Prop}
    (h : wpOp P S Y own H (evT t) o.op (fun x H' => Q (putT n t o.dst x) H')) {next : Act → World → Prop} {QE : Exit → Act → World → Prop} (hn : ∀ a' w', StPost k H w n a.defers Q a' w' → next a' w') : o.wpIn (FR ro) 0 P a w next QE :=
  wpOp_sound hS hY hr hT.eval h (fun v w' hp => by
    obtain ⟨x, H', k', a1, a2, a3, a4, a5⟩ := hp
    exact hn _ _ ⟨_, H', k', a1, a2, a3, (hT.mono a2).put a4 _, a5, put_dfs _ _ _⟩)

theorem about_FR (o : Oper) (P : Program) (w : World) (ev : Operand → Value) : ∀ f, o.about P w ev = some f → (FR ro).fn f := fun _ _ => trivial

theorem wpOps_sound (hS : TSound P S) {ops : Array Oper} {QE : Exit → Act → World → Prop} : ∀ (os : List Oper) (l : List Nat), l.map (ops[·]?) = os.map some → ∀ {k : K} (_ : YSound P k Y) {H : Hp} {w : World} (_ : Rel k H w) {a : Act} {t : T} (_ : RelT k n a t) {Q : T → Hp → Prop},
    wpOps P S Y O n ops os t H Q → (∀ a' w', StPost k H w n a.defers Q a' w' → QE .normal a' w') → wpOpsIn (FR ro) 0 P ops QE l a w
  | [], [], _, k, _, H, w, hr, a, t, hT, Q, h, hq => hq _ _ ⟨t, H, k, h, K.le.refl _, hr, hT, Fr.refl _ _, rfl⟩
  | [], _ :: _, hl, _, _, _, _, _, _, _, _, _, _, _ => by simp at hl
  | _ :: _, [], hl, _, _, _, _, _, _, _, _, _, _, _ => by simp at hl
  | o :: os, i :: l, hl, k, hY, H, w, hr, a, t, hT, Q, h, hq => by
    simp only [List.map_cons, List.cons.injEq] at hl
    obtain ⟨hi, hl⟩ := hl
    unfold wpOps at h
    unfold wpOpsIn
    rw [hi]
    simp only
    split at h
    · rename_i b hb
      have hw := wantedV_sound hT hb
      rw [hw]
      cases b with
      | true =>
        rw [if_pos rfl]
        exact wpOpT_sound (Q := fun t' H' => wpOps P S Y O n ops os t' H' Q) hS hY hr hT (h.1 rfl) (fun a' w' ⟨t', H', k', b1, b2, b3, b4, b5, b6⟩ =>
          wpOps_sound hS os l hl (hY.mono b2) b3 b4 b1 (fun a'' w'' hp => hq _ _ (by rw [b6] at hp; exact hp.trans b2 b5)))
      | false =>
        rw [if_neg (by simp)]
        refine ⟨about_FR _ _ _ _, ?_⟩
        have hT' := hT.put (Conc.tup (k := k) #[] [] rfl (fun j v x hj _ => by simp at hj)) o.dst
        exact wpOps_sound hS os l hl hY hr hT' (h.2 rfl) (fun a'' w'' hp => hq _ _ (by rw [put_dfs] at hp; exact hp))
    · exact h.elim

theorem range_map (ops : Array Oper) : (List.range ops.size).map (ops[·]?) = ops.toList.map some := by
  apply List.ext_getElem?
  intro i
  simp only [List.getElem?_map]
  by_cases h : i < ops.size
  · simp [h]
  · simp [h]

theorem wpRegion_sound (hS : TSound P S) {k : K} (hY : YSound P k Y) {H : Hp} {w : World} (hr : Rel k H w) {a : Act} {t : T} (hT : RelT k n a t) {id : Nat} {ops : Array Oper} {Q : T → Hp → Prop} {QE : Exit → Act → World → Prop}
    (h : wpOps P S Y O n ops ops.toList t H Q) (hq : ∀ a' w', StPost k H w n a.defers Q a' w' → QE .normal a' w') : (Code.region id ops false).wpIn (FR ro) 0 P QE a w :=
  wpIn_region (wpOps_sound hS _ _ (range_map ops) hY hr hT h hq)

end
end Go.Av
