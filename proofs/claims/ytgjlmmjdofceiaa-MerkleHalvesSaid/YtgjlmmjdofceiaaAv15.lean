/-
  Abstract values: a region that draws its order, sound.
-/
import Derived.Test.YtgjlmmjdofceiaaAv14
namespace Go.Av
open Go.RowKit

section
variable {P : Program} {S : Nat → Spec} {Y : YEnv} {O : List Nat} {n : Nat} {ops : Array Oper} {C : Hp → Prop} {ro : Option Nat}

theorem opA_sound (hS : TSound P S) {k : K} (hY : YSound P k Y) {H : Hp} {w : World} (hr : Rel k H w) {a : Act} {t : T} (hT : RelT k n a t) (hC : C H) {fx : Nat → Bool} {i : Nat} {K₁ : T → Hp → Prop} {K' : Act → World → Prop} {QE : Exit → Act → World → Prop}
    (h : opA P S Y O n ops C fx i K₁ t H) (hn : ∀ a' w', StPost k H w n a.defers (fun t' H' => C H' ∧ K₁ t' H') a' w' → K' a' w') : wpOpIn (FR ro) 0 P ops QE i K' a w := by
  unfold opA at h
  unfold wpOpIn
  split
  · rename_i ho
    simp only [ho] at h
    exact hn _ _ ⟨t, H, k, ⟨hC, h⟩, K.le.refl _, hr, hT, Fr.refl _ _, rfl⟩
  · rename_i o ho
    simp only [ho] at h
    split at h
    · rename_i hw
      rw [if_pos (wantedV_sound hT hw)]
      split at h
      · obtain ⟨Q, h1, h2⟩ := h
        refine wpOp_sound hS hY hr hT.eval h1 (fun v w' hp => ?_)
        obtain ⟨x, H', k', a1, a2, a3, a4, a5⟩ := hp
        exact hn _ _ ⟨_, H', k', h2 x H' a1, a2, a3, (hT.mono a2).put a4 _, a5, put_dfs _ _ _⟩
      · obtain ⟨x, h1, h2⟩ := h
        refine wpOp_sound hS hY hr hT.eval (h1 H hC) (fun v w' hp => ?_)
        obtain ⟨y, H', k', ⟨e1, e2⟩, a2, a3, a4, a5⟩ := hp
        subst e1
        subst e2
        exact hn _ _ ⟨_, _, k', ⟨hC, h2⟩, a2, a3, (hT.mono a2).put a4 _, a5, put_dfs _ _ _⟩
    · rename_i hw
      rw [if_neg (by rw [wantedV_sound hT hw]; simp)]
      refine ⟨about_FR _ _ _ _, ?_⟩
      have hT' := hT.put (Conc.tup (k := k) #[] [] rfl (fun j v x hj _ => by simp at hj)) o.dst
      exact hn _ _ ⟨_, H, k, ⟨hC, h⟩, K.le.refl _, hr, hT', Fr.refl _ _, put_dfs _ _ _⟩
    · exact h.elim

theorem anyA_sound (hS : TSound P S) {k₀ : K} (hY : YSound P k₀ Y) {H₀ : Hp} {w₀ : World} {ds : List Deferred} {m g : Nat} {fx : Nat → Bool} {L : Array Bool → T → Hp → Prop} {QE : Exit → Act → World → Prop}
    (hL : ∀ listed k H w a t, k₀.le k → Rel k H w → RelT k n a t → Fr H₀ w₀ H w → a.defers = ds → L listed t H → wpAnyIn (FR ro) 0 P .any ops QE g listed a w) :
    ∀ (f : Nat) (listed : Array Bool) (k : K) (H : Hp) (w : World) (a : Act) (t : T), k₀.le k → Rel k H w → RelT k n a t → Fr H₀ w₀ H w → a.defers = ds → C H →
      anyA P S Y O n ops C m fx L f listed t H → wpAnyIn (FR ro) 0 P .any ops QE (f + g) listed a w
  | 0, listed, k, H, w, a, t, h1, h2, h3, h4, h5, _, h => by rw [Nat.zero_add]; exact hL _ _ _ _ _ _ h1 h2 h3 h4 h5 h
  | f + 1, listed, k, H, w, a, t, h1, h2, h3, h4, h5, hC, h => by
    rw [show f + 1 + g = (f + g) + 1 by omega]
    refine ⟨fun h0 => absurd h0 h.1, fun i hi => opA_sound hS (hY.mono h1) h2 h3 hC (h.2 i hi).2 (fun a' w' hp => ?_)⟩
    obtain ⟨t', H', k', ⟨b0, b1⟩, b2, b3, b4, b5, b6⟩ := hp
    exact anyA_sound hS hY hL f _ k' H' w' a' t' (h1.trans b2) b3 b4 (h4.trans b5) (b6.trans h5) b0 b1

theorem anyIn_of_seq (hS : TSound P S) {QE : Exit → Act → World → Prop} : ∀ (l : List Oper) (i : Nat) (listed : Array Bool) {k : K} (_ : YSound P k Y) {H : Hp} {w : World} (_ : Rel k H w) {a : Act} {t : T} (_ : RelT k n a t) {Q : T → Hp → Prop}, (∀ j, l[j]? = ops[i + j]?) →
    Region.seqB .any ops l.length i listed = true → wpOps P S Y O n ops l t H Q → (∀ a' w', StPost k H w n a.defers Q a' w' → QE .normal a' w') → wpAnyIn (FR ro) 0 P .any ops QE l.length listed a w
  | [], i, listed, k, hY, H, w, hr, a, t, hT, Q, _, hB, h, hq => ⟨by simpa [Region.seqB] using hB, hq _ _ ⟨t, H, k, h, K.le.refl _, hr, hT, Fr.refl _ _, rfl⟩⟩
  | o :: l, i, listed, k, hY, H, w, hr, a, t, hT, Q, hl, hB, h, hq => by
    have h0 : ops[i]? = some o := by simpa using (hl 0).symm
    simp only [List.length_cons, Region.seqB, Bool.and_eq_true, decide_eq_true_eq] at hB
    refine ⟨fun h1 => (by rw [hB.1] at h1; cases h1), fun j hj => ?_⟩
    rw [hB.1] at hj
    have hji : j = i := by simpa using hj
    subst hji
    have hl' : ∀ m, l[m]? = ops[(j + 1) + m]? := fun m => by have := hl (m + 1); simpa [Nat.add_assoc, Nat.add_comm 1 m] using this
    unfold wpOpIn
    simp only [h0]
    unfold wpOps at h
    split at h
    · rename_i b hb
      have hw := wantedV_sound hT hb
      rw [hw]
      cases b with
      | true =>
        rw [if_pos rfl]
        exact wpOpT_sound (Q := fun t' H' => wpOps P S Y O n ops l t' H' Q) hS hY hr hT (h.1 rfl) (fun a' w' ⟨t', H', k', b1, b2, b3, b4, b5, b6⟩ =>
          anyIn_of_seq hS l (j + 1) _ (hY.mono b2) b3 b4 hl' hB.2 b1 (fun a'' w'' hp => hq _ _ (by rw [b6] at hp; exact hp.trans b2 b5)))
      | false =>
        rw [if_neg (by simp)]
        refine ⟨about_FR _ _ _ _, ?_⟩
        have hT' := hT.put (Conc.tup (k := k) #[] [] rfl (fun j v x hj _ => by simp at hj)) o.dst
        exact anyIn_of_seq hS l (j + 1) _ hY hr hT' hl' hB.2 (h.2 rfl) (fun a'' w'' hp => hq _ _ (by rw [put_dfs] at hp; exact hp))
    · exact h.elim

/-- The Bool over a drawn region: its head has m operations; those of the list qs are taken in that order. -/
def drawB (ops : Array Oper) (m : Nat) (qs : List Nat) : Bool :=
  decide (m < ops.size) && decide (qs.length ≤ m) && Region.sinkB .any ops m && Region.chainB .any ops m && walkB ops m qs (Array.replicate ops.size false)

def DrawOk (P : Program) (S : Nat → Spec) (Y : YEnv) (O : List Nat) (n : Nat) (ops : Array Oper) (t : T) (H : Hp) (Q : T → Hp → Prop) : Prop :=
  ∃ (m : Nat) (C : Hp → Prop) (fx : Nat → Bool) (qs : List Nat), drawB ops m qs = true ∧ C H ∧
    walkA P S Y O n ops C m fx (fun listed' t' H' => Region.seqB .any ops (ops.size - m) m listed' = true ∧ wpOps P S Y O n ops (ops.toList.drop m) t' H' Q) (m - qs.length) qs (Array.replicate ops.size false) t H

theorem wpDraw_sound (hm : P.follows .mixedOrders = true) (hS : TSound P S) {k : K} (hY : YSound P k Y) {H : Hp} {w : World} (hr : Rel k H w) {a : Act} {t : T} (hT : RelT k n a t) {id : Nat} {Q : T → Hp → Prop} {QE : Exit → Act → World → Prop}
    (h : DrawOk P S Y O n ops t H Q) (hq : ∀ a' w', StPost k H w n a.defers Q a' w' → QE .normal a' w') : (Code.region id ops true).wpIn (FR ro) 0 P QE a w := by
  obtain ⟨m, C, fx, qs, hB, hC, h⟩ := h
  simp only [drawB, Bool.and_eq_true, decide_eq_true_eq] at hB
  obtain ⟨⟨⟨⟨hn, hle⟩, hs⟩, hc⟩, hw⟩ := hB
  have inv0 : HeadInv .any ops m (Array.replicate ops.size false) :=
    ⟨by simp, fun j oj _ hl => (by rw [getD_replicate_false] at hl; cases hl), fun t _ ht => getD_in (by simpa using ht) (getD_replicate_false _ _)⟩
  have h1 := anyA_of_walk hs hc hn (fun listed t H hL => seqB_ready hL.1) (m - qs.length) qs _ t H inv0 hw h
  rw [show qs.length + (m - qs.length) = m by omega] at h1
  have hr' : Rel k H { w with drawn := w.drawn + 1 } := hr.heap rfl
  have hf' : Fr H w H { w with drawn := w.drawn + 1 } := ⟨rfl, rfl, rfl, Nat.le_refl _, fun _ _ _ => rfl, fun _ _ h => h⟩
  have hlen : (ops.toList.drop m).length = ops.size - m := by simp
  refine wpIn_region_any hm ?_
  have := anyA_sound (ro := ro) (g := ops.size - m) (QE := QE) hS hY (H₀ := H) (w₀ := { w with drawn := w.drawn + 1 }) (ds := a.defers) (fun listed k' H' w' a' t' g1 g2 g3 g4 g5 hL => by
    have := anyIn_of_seq (ro := ro) (O := O) hS (ops.toList.drop m) m listed (hY.mono g1) g2 g3 (QE := QE) (Q := Q) (fun j => by simp [List.getElem?_drop]) (by rw [hlen]; exact hL.1) hL.2 (fun a'' w'' hp => hq _ _ (by
      rw [g5] at hp
      exact (hp.trans g1 g4).trans (K.le.refl _) hf'))
    rwa [hlen] at this) m _ k H { w with drawn := w.drawn + 1 } a t (K.le.refl _) hr' hT (Fr.refl _ _) rfl hC h1
  rw [show m + (ops.size - m) = ops.size by omega] at this
  exact this

/-- The frequent case: the head turns nothing. -/
def wpQuietL (P : Program) (S : Nat → Spec) (Y : YEnv) (O : List Nat) (n : Nat) (ops : Array Oper) : List Oper → T → Hp → (T → Hp → Prop) → Prop
  | [], t, H, Q => Q t H
  | o :: r, t, H, Q => match wantedV ops t o.guard with
    | some b => (b = true → ∃ x, wpOp P S Y (owned O o) H (evT t) o.op (fun y H'' => y = x ∧ H'' = H) ∧ wpQuietL P S Y O n ops r (putT n t o.dst x) H Q) ∧ (b = false → wpQuietL P S Y O n ops r (putT n t o.dst (.tup [])) H Q)
    | none => False

theorem walkA_of_quiet {m : Nat} {L : Array Bool → T → Hp → Prop} {H : Hp} {Q : T → Hp → Prop} : ∀ (l : List Oper) (i : Nat) (listed : Array Bool) (t : T), (∀ j, j < l.length → l[j]? = ops[i + j]?) →
    (∀ t', Q t' H → L ((List.range' i l.length).foldl (fun a j => a.setIfInBounds j true) listed) t' H) → wpQuietL P S Y O n ops l t H Q → walkA P S Y O n ops (fun H' => H' = H) m (fun _ => false) L 0 (List.range' i l.length) listed t H
  | [], i, listed, t, _, hL, h => hL t h
  | o :: l, i, listed, t, hl, hL, h => by
    have h0 : ops[i]? = some o := by simpa using (hl 0 (by simp)).symm
    have hl' : ∀ j, j < l.length → l[j]? = ops[(i + 1) + j]? := fun j hj => by have := hl (j + 1) (by simp; omega); simpa [Nat.add_assoc, Nat.add_comm 1 j] using this
    refine ⟨rfl, ?_⟩
    unfold opA
    simp only [h0]
    unfold wpQuietL at h
    split at h
    · rename_i b hb
      cases b with
      | true =>
        rw [hb]
        obtain ⟨x, h1, h2⟩ := h.1 rfl
        refine ⟨x, fun H' hH => ?_, walkA_of_quiet l (i + 1) _ _ hl' hL h2⟩
        subst hH
        exact h1
      | false =>
        rw [hb]
        exact walkA_of_quiet l (i + 1) _ _ hl' hL (h.2 rfl)
    · exact h.elim

theorem drawOk_quiet {m : Nat} {t : T} {H : Hp} {Q : T → Hp → Prop} (hB : (drawB ops m (List.range' 0 m) && Region.seqB .any ops (ops.size - m) m ((List.range' 0 m).foldl (fun a j => a.setIfInBounds j true) (Array.replicate ops.size false))) = true)
    (h : wpQuietL P S Y O n ops (ops.toList.take m) t H fun t' H' => wpOps P S Y O n ops (ops.toList.drop m) t' H' Q) : DrawOk P S Y O n ops t H Q := by
  rw [Bool.and_eq_true] at hB
  have hm : m < ops.size := by
    have := hB.1
    simp only [drawB, Bool.and_eq_true, decide_eq_true_eq] at this
    exact this.1.1.1.1
  have hl : (ops.toList.take m).length = m := by simp; omega
  refine ⟨m, fun H' => H' = H, fun _ => false, List.range' 0 m, hB.1, rfl, ?_⟩
  rw [List.length_range', Nat.sub_self]
  have := walkA_of_quiet (m := m) (L := fun listed' t' H' => Region.seqB .any ops (ops.size - m) m listed' = true ∧ wpOps P S Y O n ops (ops.toList.drop m) t' H' Q) (ops.toList.take m) 0 (Array.replicate ops.size false) t
    (fun j hj => by rw [hl] at hj; simp [hj]) (fun t' hq => ⟨by rw [hl]; exact hB.2, hq⟩) h
  rwa [hl] at this

end
end Go.Av
