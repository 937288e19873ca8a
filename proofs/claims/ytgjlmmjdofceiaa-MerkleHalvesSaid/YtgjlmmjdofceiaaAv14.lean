/-
  Abstract values: a region that draws its order.
-/
import Derived.Test.YtgjlmmjdofceiaaAv13
import Derived.OrdersIn
import Derived.StillTail
namespace Go.Av
open Go.RowKit

theorem wpOp_congr {P : Program} {S : Nat → Spec} {Y : YEnv} {own : Bool} {H : Hp} {ev ev' : Operand → V} {op : Op} {Q : V → Hp → Prop} (h : ∀ x ∈ op.operands, ev x = ev' x) : wpOp P S Y own H ev op Q = wpOp P S Y own H ev' op Q := by
  have pairs : ∀ ps : Array (Nat × Operand), (∀ x ∈ (ps.toList.map (·.2)).toArray, ev x = ev' x) → (ps.toList.map fun (i, x) => (i, ev x)) = (ps.toList.map fun (i, x) => (i, ev' x)) := fun ps hp =>
    List.map_congr_left fun p hm => by
      obtain ⟨i, x⟩ := p
      simp only [hp x (by simpa using ⟨i, by simpa using hm⟩)]
  cases op <;> simp only [Op.operands] at h <;> simp only [wpOp, pval]
  case build t ps => rw [pairs ps h]
  case buildSlice t n ps => rw [pairs ps h]
  case makeFunc fn first captured =>
    rw [List.map_congr_left (l := first.toList) fun x hx => h x (by simp [Array.mem_toList_iff.1 hx]), List.map_congr_left (l := captured.toList) fun x hx => h x (by simp [Array.mem_toList_iff.1 hx])]
  case call c =>
    obtain ⟨callee, args, ats⟩ := c
    have hargs : args.toList.map ev = args.toList.map ev' := List.map_congr_left fun x hx => h x (by simp [Call.operands, Array.mem_toList_iff.1 hx])
    cases callee with
    | value f => have hf : ev f = ev' f := h f (by simp [Call.operands]); simp only [hf, hargs]
    | invoke r m => rfl
    | builtin b => simp only [hargs]
  case slice t x lo hi mx => cases lo <;> cases hi <;> cases mx <;> simp_all
  all_goals (first | rfl | (simp_all; done))

theorem putT_comm (n : Nat) (t : T) {d e : Option Tmp} (x y : V) (h : ∀ i, d = some i → e ≠ some i) : putT n (putT n t d x) e y = putT n (putT n t e y) d x := by
  cases d with
  | none => rfl
  | some d =>
    cases e with
    | none => rfl
    | some e =>
      have hne : d ≠ e := fun he => h d rfl (he ▸ rfl)
      unfold putT
      by_cases h1 : d < n <;> by_cases h2 : e < n <;> simp only [h1, h2, if_true, if_false]
      funext i
      simp only [upd_apply]
      by_cases a1 : i = e <;> by_cases a2 : i = d <;> simp_all

theorem evT_put {n : Nat} {t : T} {d : Option Tmp} {x : V} {o : Operand} (h : ∀ i, d = some i → o ≠ .tmp i) : evT (putT n t d x) o = evT t o := by
  cases d with
  | none => rfl
  | some d =>
    cases o with
    | tmp i =>
      have hne : i ≠ d := fun e => h d rfl (e ▸ rfl)
      simp only [evT, putT]
      split
      · exact upd_ne _ _ _ hne
      · rfl
    | _ => rfl

section
variable {ops : Array Oper}

theorem wantedV_put {n : Nat} {t : T} {o : Oper} {d : Option Tmp} {x : V} (h : ∀ i, d = some i → i ∉ o.looksAt ops) : wantedV ops (putT n t d x) o.guard = wantedV ops t o.guard := by
  cases d with
  | none => rfl
  | some d =>
    unfold wantedV
    cases hg : o.guard with
    | none => rfl
    | some gw =>
      obtain ⟨g, want⟩ := gw
      simp only
      cases hb : (ops[g]?).bind (·.dst) with
      | none => rfl
      | some i =>
        have hne : i ≠ d := fun e => h d rfl (by subst e; simp [Oper.looksAt, hg, hb])
        have : putT n t (some d) x i = t i := by
          show (if d < n then upd t d x else t) i = t i
          split
          · exact upd_ne _ _ _ hne
          · rfl
        simp only [this]

theorem evT_looks {n : Nat} {t : T} {o : Oper} {d : Option Tmp} {x : V} (h : ∀ i, d = some i → i ∉ o.looksAt ops) : ∀ y ∈ o.op.operands, evT (putT n t d x) y = evT t y := fun y hy =>
  evT_put fun i hi hyi => h i hi (by
    subst hyi
    exact List.mem_append_left _ (List.mem_filterMap.2 ⟨.tmp i, by simpa using hy, rfl⟩))
end

section
variable (P : Program) (S : Nat → Spec) (Y : YEnv) (O : List Nat) (n : Nat) (ops : Array Oper) (C : Hp → Prop)

/-- One value, whatever heap of the class. -/
def quietV (o : Oper) (t : T) (x : V) : Prop := ∀ H', C H' → wpOp P S Y (owned O o) H' (evT t) o.op (fun y H'' => y = x ∧ H'' = H')

def opA (fx : Nat → Bool) (i : Nat) (K : T → Hp → Prop) (t : T) (H : Hp) : Prop :=
  match ops[i]? with
  | none => K t H
  | some o => match wantedV ops t o.guard with
    | some true => if fx i then ∃ Q : V → Hp → Prop, wpOp P S Y (owned O o) H (evT t) o.op Q ∧ ∀ x H', Q x H' → C H' ∧ K (putT n t o.dst x) H' else ∃ x, quietV P S Y O C o t x ∧ K (putT n t o.dst x) H
    | some false => K (putT n t o.dst (.tup [])) H
    | none => False

def YieldsA (o : Oper) (x : V) (t : T) : Prop :=
  (wantedV ops t o.guard = some true ∧ quietV P S Y O C o t x) ∨ (wantedV ops t o.guard = some false ∧ x = .tup [])

def anyA (m : Nat) (fx : Nat → Bool) (L : Array Bool → T → Hp → Prop) : Nat → Array Bool → T → Hp → Prop
  | 0, listed, t, H => L listed t H
  | f + 1, listed, t, H =>
    Region.ready .any ops listed ≠ [] ∧ ∀ i ∈ Region.ready .any ops listed, i < m ∧ opA P S Y O n ops C fx i (anyA m fx L f (listed.setIfInBounds i true)) t H

/-- The walk of the operations that turn nothing, in the order of the list; then the rest of the head in whatever order. -/
def walkA (m : Nat) (fx : Nat → Bool) (L : Array Bool → T → Hp → Prop) (g : Nat) : List Nat → Array Bool → T → Hp → Prop
  | [], listed, t, H => anyA P S Y O n ops C m fx L g listed t H
  | i :: r, listed, t, H => fx i = false ∧ opA P S Y O n ops C fx i (walkA m fx L g r (listed.setIfInBounds i true)) t H

end

section
variable {P : Program} {S : Nat → Spec} {Y : YEnv} {O : List Nat} {n : Nat} {ops : Array Oper} {C : Hp → Prop}

theorem opA_mono {fx : Nat → Bool} {i : Nat} {K K' : T → Hp → Prop} {t : T} {H : Hp} (h : ∀ t H, K t H → K' t H) (hh : opA P S Y O n ops C fx i K t H) : opA P S Y O n ops C fx i K' t H := by
  unfold opA at *
  split
  · exact h _ _ (by simpa [*] using hh)
  · rename_i o ho
    simp only [ho] at hh
    split
    · rename_i hw
      simp only [hw] at hh
      split
      · rename_i hf
        simp only [hf, if_true] at hh
        obtain ⟨Q, h1, h2⟩ := hh
        exact ⟨Q, h1, fun x H' hq => ⟨(h2 x H' hq).1, h _ _ (h2 x H' hq).2⟩⟩
      · rename_i hf
        simp only [hf] at hh
        obtain ⟨x, h1, h2⟩ := hh
        exact ⟨x, h1, h _ _ h2⟩
    · rename_i hw; simp only [hw] at hh; exact h _ _ hh
    · rename_i hw; simp only [hw] at hh

theorem quietV_congr {o : Oper} {t t' : T} {x : V} (h : ∀ y ∈ o.op.operands, evT t' y = evT t y) (hq : quietV P S Y O C o t x) : quietV P S Y O C o t' x := fun H' hc => by
  rw [wpOp_congr h]; exact hq H' hc

theorem YieldsA.opA {fx : Nat → Bool} {i : Nat} {o : Oper} {x : V} {t : T} {H : Hp} (hi : ops[i]? = some o) (hf : fx i = false) (hy : YieldsA P S Y O ops C o x t) {K : T → Hp → Prop} (h : K (putT n t o.dst x) H) : opA P S Y O n ops C fx i K t H := by
  unfold Go.Av.opA
  simp only [hi]
  rcases hy with ⟨hw, hv⟩ | ⟨hw, rfl⟩
  · simp only [hw, hf]; exact ⟨x, hv, h⟩
  · simp only [hw]; exact h

theorem yieldsA_of_opA {fx : Nat → Bool} {i : Nat} {o : Oper} {t : T} {H : Hp} {K : T → Hp → Prop} (hi : ops[i]? = some o) (hf : fx i = false) (h : opA P S Y O n ops C fx i K t H) : ∃ x, YieldsA P S Y O ops C o x t ∧ K (putT n t o.dst x) H := by
  unfold Go.Av.opA at h
  simp only [hi] at h
  split at h
  · rename_i hw
    simp only [hf] at h
    obtain ⟨x, h1, h2⟩ := h
    exact ⟨x, .inl ⟨hw, h1⟩, h2⟩
  · rename_i hw
    exact ⟨.tup [], .inr ⟨hw, rfl⟩, h⟩
  · exact h.elim

theorem opA_put {fx : Nat → Bool} {j : Nat} {oi oj : Oper} {x : V} (hj : ops[j]? = some oj) (hap : oi.apart ops oj = true) {K : T → Hp → Prop} {t : T} {H : Hp}
    (hy : YieldsA P S Y O ops C oi x t) (h : opA P S Y O n ops C fx j K (putT n t oi.dst x) H) :
    opA P S Y O n ops C fx j (fun t' H' => YieldsA P S Y O ops C oi x t' ∧ K (putT n t' oi.dst x) H') t H := by
  obtain ⟨h1, h2, h3⟩ := Oper.apart_spec hap
  have keep : ∀ y, YieldsA P S Y O ops C oi x (putT n t oj.dst y) := fun y => by
    rcases hy with ⟨a, b⟩ | ⟨a, b⟩
    · exact .inl ⟨(wantedV_put h3).trans a, quietV_congr (evT_looks h3) b⟩
    · exact .inr ⟨(wantedV_put h3).trans a, b⟩
  unfold opA at *
  simp only [hj] at *
  rw [wantedV_put h1] at h
  split
  · rename_i hw
    simp only [hw] at h
    split
    · rename_i hf
      simp only [hf, if_true] at h
      obtain ⟨Q, g1, g2⟩ := h
      rw [wpOp_congr (evT_looks h1)] at g1
      exact ⟨Q, g1, fun y H' hq => ⟨(g2 y H' hq).1, keep y, by rw [← putT_comm n t x y h2]; exact (g2 y H' hq).2⟩⟩
    · rename_i hf
      simp only [hf] at h
      obtain ⟨y, g1, g2⟩ := h
      exact ⟨y, quietV_congr (fun o ho => (evT_looks h1 o ho).symm) g1, keep y, by rw [← putT_comm n t x y h2]; exact g2⟩
  · rename_i hw
    simp only [hw] at h
    exact ⟨keep _, by rw [← putT_comm n t x _ h2]; exact h⟩
  · rename_i hw
    simp only [hw] at h

theorem anyA_first {m i : Nat} {oi : Oper} {x : V} {fx : Nat → Bool} {L : Array Bool → T → Hp → Prop} (hi : ops[i]? = some oi) (hf : fx i = false)
    (hs : Region.sinkB .any ops m = true) (hc : Region.chainB .any ops m = true) (hn : m < ops.size) (hin : i < m)
    (hdone : ∀ listed t H, L listed t H → ∀ j ∈ Region.ready .any ops listed, m ≤ j) :
    ∀ (f : Nat) (listed : Array Bool) (t : T) (H : Hp), HeadInv .any ops m listed →
      (∀ j oj, ops[j]? = some oj → j ≠ i → listed.getD j true = false → (∀ e ∈ oj.after, Region.binds .any e = true → e.on ≠ i) → oi.apart ops oj = true) →
      i ∈ Region.ready .any ops listed → YieldsA P S Y O ops C oi x t →
      anyA P S Y O n ops C m fx L f (listed.setIfInBounds i true) (putT n t oi.dst x) H → anyA P S Y O n ops C m fx L (f + 1) listed t H := by
  intro f
  induction f with
  | zero =>
    intro listed t H inv _ hr hy h
    have hun := (mem_ready.1 hr).1
    refine ⟨fun h => (by rw [h] at hr; cases hr), fun j hj => ?_⟩
    have hjn : j < m := by
      rcases Nat.lt_or_ge j m with h | h
      · exact h
      · exact absurd hj (tail_waits hs hc hn inv _ i rfl hin hun j h)
    refine ⟨hjn, ?_⟩
    by_cases hji : j = i
    · subst hji; exact hy.opA hi hf h
    · have := hdone _ _ _ h j (ready_mono hj hji)
      omega
  | succ f ih =>
    intro listed t H inv hfree hr hy h
    have hun := (mem_ready.1 hr).1
    refine ⟨fun h => (by rw [h] at hr; cases hr), fun j hj => ?_⟩
    have hjn : j < m := by
      rcases Nat.lt_or_ge j m with h | h
      · exact h
      · exact absurd hj (tail_waits hs hc hn inv _ i rfl hin hun j h)
    refine ⟨hjn, ?_⟩
    by_cases hji : j = i
    · subst hji; exact hy.opA hi hf h
    · have h1 := (h.2 j (ready_mono hj hji)).2
      obtain ⟨hjun, oj, hoj, hall⟩ := mem_ready.1 hj
      have hnot : ∀ e ∈ oj.after, Region.binds .any e = true → e.on ≠ i := fun e he hb heq => by
        have h1 := hall e he hb
        rw [heq, getD_both hun] at h1
        cases h1
      have h2 := opA_put hoj (hfree j oj hoj hji hjun hnot) hy h1
      have hfree' : ∀ k ok, ops[k]? = some ok → k ≠ i → (listed.setIfInBounds j true).getD k true = false →
          (∀ e ∈ ok.after, Region.binds .any e = true → e.on ≠ i) → oi.apart ops ok = true := fun k ok hk hki hun hno => by
        refine hfree k ok hk hki ?_ hno
        by_cases hjk : j = k
        · subst hjk; exact hjun
        · rw [getD_set_ne true hjk] at hun; exact hun
      refine opA_mono (fun t' H' h3 => ih (listed.setIfInBounds j true) t' H' (inv.set hj hjn) hfree' (ready_mono hr (Ne.symm hji)) h3.1 ?_) h2
      rw [Array.setIfInBounds_comm _ _ hji]
      exact h3.2

/-- What is asked of the order of the walk. -/
def walkB (ops : Array Oper) (m : Nat) : List Nat → Array Bool → Bool
  | [], _ => true
  | i :: r, listed => decide (i < m) && (Region.ready .any ops listed).contains i && Region.free .any ops listed i && walkB ops m r (listed.setIfInBounds i true)

theorem anyA_of_walk {m : Nat} {fx : Nat → Bool} {L : Array Bool → T → Hp → Prop} (hs : Region.sinkB .any ops m = true) (hc : Region.chainB .any ops m = true) (hn : m < ops.size)
    (hdone : ∀ listed t H, L listed t H → ∀ j ∈ Region.ready .any ops listed, m ≤ j) (g : Nat) : ∀ (l : List Nat) (listed : Array Bool) (t : T) (H : Hp), HeadInv .any ops m listed → walkB ops m l listed = true →
    walkA P S Y O n ops C m fx L g l listed t H → anyA P S Y O n ops C m fx L (l.length + g) listed t H
  | [], _, _, _, _, _, h => by rw [List.length_nil, Nat.zero_add]; exact h
  | i :: l, listed, t, H, inv, hB, h => by
    simp only [walkB, Bool.and_eq_true, decide_eq_true_eq] at hB
    obtain ⟨⟨⟨him, hr⟩, hf⟩, hB'⟩ := hB
    have hr' : i ∈ Region.ready .any ops listed := by simpa using hr
    obtain ⟨_, o, ho, _⟩ := mem_ready.1 hr'
    obtain ⟨hfx, h⟩ := h
    obtain ⟨x, hy, hK⟩ := yieldsA_of_opA ho hfx h
    rw [List.length_cons, show l.length + 1 + g = (l.length + g) + 1 by omega]
    exact anyA_first ho hfx hs hc hn him hdone (l.length + g) listed t H inv (Region.free_spec ho hf) hr' hy (anyA_of_walk hs hc hn hdone g l _ _ _ (inv.set hr' him) hB' hK)

end
end Go.Av
