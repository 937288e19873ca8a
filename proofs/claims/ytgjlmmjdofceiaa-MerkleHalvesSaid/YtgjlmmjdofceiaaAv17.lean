/-
  Abstract values: the soundness of 'wpC'.
-/
import Derived.Test.YtgjlmmjdofceiaaAv16
namespace Go.Av
open Go.RowKit

/-- What is asked, at every start. -/
def CSound (P : Program) (S : Nat → Spec) (O : List Nat) (n : Nat) (c : Code) : Prop :=
  ∀ (top : Bool) (ro : Option Nat), (top = true → ro = none) → ∀ (Y : YEnv) (k : K), YSound P k Y → ∀ (H : Hp) (w : World), Rel k H w → ∀ (a : Act) (t : T), RelT k n a t → ∀ (lo : Nat), Mk lo a.defers H w → lo ≤ w.heap.size →
    ∀ Q, wpC P S Y O n c top Q t H → c.wpIn (FR ro) 0 P (StPostE k H w n lo Q) a w

section
variable {P : Program} {S : Nat → Spec} {O : List Nat} {n : Nat}

theorem seq_sound {x y : Code} (hx : CSound P S O n x) (hy : CSound P S O n y) : CSound P S O n (.seq x y) := by
  intro top ro ht Y k hY H w hr a t hT lo hmk hlo Q h
  unfold wpC at h
  refine wpIn_seq (wpIn_mono (hx top ro ht Y k hY H w hr a t hT lo hmk hlo _ h) fun e a' w' hp => ?_)
  obtain ⟨t', H', k', b1, b2, b3, b4, b5, b6⟩ := hp
  cases e with
  | normal => exact wpIn_mono (hy top ro ht Y k' (hY.mono b2) H' w' b3 a' t' b4 lo b6 (Nat.le_trans hlo b5.size) Q b1) fun e a'' w'' hp => hp.trans b2 b5
  | _ => exact ⟨t', H', k', b1, b2, b3, b4, b5, b6⟩

theorem block_sound {id : Nat} {c : Code} (hc : CSound P S O n c) : CSound P S O n (.block id c) := by
  intro top ro ht Y k hY H w hr a t hT lo hmk hlo Q h
  unfold wpC at h
  refine wpIn_block (wpIn_mono (hc top ro ht Y k hY H w hr a t hT lo hmk hlo _ h) fun e a' w' hp => ?_)
  obtain ⟨t', H', k', b1, b2, b3, b4, b5, b6⟩ := hp
  cases e with
  | exit id' =>
    simp only [inBlockA] at b1
    simp only [Exit.inBlock]
    split
    · rename_i hi; rw [if_pos hi] at b1; exact ⟨t', H', k', b1, b2, b3, b4, b5, b6⟩
    · rename_i hi; rw [if_neg hi] at b1; exact ⟨t', H', k', b1, b2, b3, b4, b5, b6⟩
  | _ => exact ⟨t', H', k', b1, b2, b3, b4, b5, b6⟩

theorem scope_sound {c : Code} (hc : CSound P S O n c) : CSound P S O n (.scope c) := by
  intro top ro ht Y k hY H w hr a t hT lo hmk hlo Q h
  unfold wpC at h
  refine wpIn_scope (wpIn_mono (hc top ro ht Y k hY H w hr a t hT lo hmk hlo _ h) fun e a' w' hp => ?_)
  obtain ⟨t', H', k', b1, b2, b3, b4, b5, b6⟩ := hp
  cases e with
  | goto l => exact b1.elim
  | _ => exact ⟨t', H', k', b1, b2, b3, b4, b5, b6⟩

theorem cond_sound {o : Operand} {x y : Code} (hx : CSound P S O n x) (hy : CSound P S O n y) : CSound P S O n (.cond o x y) := by
  intro top ro ht Y k hY H w hr a t hT lo hmk hlo Q h
  unfold wpC condA at h
  split at h
  · rename_i b hb
    have hc := hT.eval o
    rw [hb] at hc
    generalize hv : a.eval o = v at hc
    cases hc
    exact wpIn_cond_split hv (fun e => hx top ro ht Y k hY H w hr a t hT lo hmk hlo Q (h.1 e)) (fun e => hy top ro ht Y k hY H w hr a t hT lo hmk hlo Q (h.2 e))
  · exact h.elim

theorem loop_sound {c : Code} (hc : CSound P S O n c) : CSound P S O n (.loop c) := by
  intro top ro ht Y k hY H w hr a t hT lo hmk hlo Q h
  unfold wpC at h
  obtain ⟨I, ⟨m, hI⟩, hround⟩ := h
  refine wpIn_loop_ix (fun m a' w' => ∃ t' H' k', I m t' H' ∧ k.le k' ∧ Rel k' H' w' ∧ RelT k' n a' t' ∧ Fr H w H' w' ∧ Mk lo a'.defers H' w') (m := m) ⟨t, H, k, hI, K.le.refl _, hr, hT, Fr.refl _ _, hmk⟩ ?_
  rintro m a' w' ⟨t', H', k', b1, b2, b3, b4, b5, b6⟩
  refine wpIn_mono (hc top ro ht Y k' (hY.mono b2) H' w' b3 a' t' b4 lo b6 (Nat.le_trans hlo b5.size) _ (hround m t' H' b1)) fun e a'' w'' hp => ?_
  have hp := hp.trans b2 b5
  cases e with
  | normal =>
    obtain ⟨t₂, H₂, k₂, ⟨m', c0, c1⟩, c2, c3, c4, c5, c6⟩ := hp
    exact ⟨m', c0, t₂, H₂, k₂, c1, c2, c3, c4, c5, c6⟩
  | _ => exact hp

theorem region_sound (hm : P.follows .mixedOrders = true) (hS : TSound P S) {id : Nat} {ops : Array Oper} {d : Bool} : CSound P S O n (.region id ops d) := by
  intro top ro ht Y k hY H w hr a t hT lo hmk hlo Q h
  unfold wpC at h
  cases d with
  | true =>
    rw [if_pos rfl] at h
    exact wpDraw_sound hm hS hY hr hT h fun a' w' hp => hp.toE hmk
  | false =>
    rw [if_neg (by simp)] at h
    exact wpRegion_sound hS hY hr hT h fun a' w' hp => hp.toE hmk

/-- A round of a range over a function, out of its two pieces of code. -/
theorem round_sound {assign body : Code} (ha : CSound P S O n assign) (hb : CSound P S O n body) {Y : YEnv} {k₀ : K} (hY : YSound P k₀ Y) {a : Act} {t : T} (hT : RelT k₀ n a t) {l : Nat} {ob : LoopState → Option Code → Obj} {fn : FuncId} {ps : Array Tmp} {dl : Nat}
    (hob : ob = fun st p => .loop { state := st, pending := p, fn, tmps := a.tmps, params := ps, assign, body, defers := dl })
    {args : List V} {H : Hp} {QY : V → Hp → Prop} (hl : args.length = ps.size) (hH : H l = some (.raw (ob .ready none)))
    (h : wpC P S Y O n assign false (onlyA fun t₁ H₁ => H₁ l = some (.raw (ob .ready none)) ∧ wpC P S Y O n body false (roundA l ob QY) t₁ (upd H₁ l (some (.raw (ob .busy none))))) (putsT n t ps.toList args) H)
    {k : K} {w : World} {cargs : Array Value} (hk : k₀.le k) (hr : Rel k H w) (hc : ConcL k cargs args) :
    ∃ f tmps assign body, (Instr.yield l cargs).run P w = .ok (.round l f tmps assign body) w ∧ RoundIn Fence.wide 0 P l f tmps assign body w fun e w' => ∃ v, e = .returned v ∧ OpPost k H w QY v w' := by
  have hraw : ∀ st p cs e fr, ob st p ≠ .cells cs e fr := by subst hob; intro st p cs e fr h; cases h
  have hw : w.heap[l]? = some (ob .ready none) := (hr.own l _ hH).1
  rw [hob] at hw
  refine ⟨_, _, _, _, run_yield hw (by simp only; rw [← hc.1, hl]), ?_⟩
  refine roundIn_of_wpIn trivial ?_
  have hT' : RelT k n { tmps := (ps.zip cargs).foldl (fun tmps (t, a) => tmps.setIfInBounds t a) a.tmps, defers := [] } (putsT n t ps.toList args) := by
    have := RelT.puts ps.toList cargs.toList args (a := { a with defers := [] }) (t := t) (hT.mono hk) (by simpa using hc.1) (fun j v x a b => hc.2 j v x (by simpa using a) b)
    rw [← Array.foldl_toList, Array.toList_zip]
    exact this
  have hmk0 : ∀ (H : Hp) (w : World), Mk 0 [] H w := fun H w => ⟨List.Pairwise.nil, fun d hd => by cases hd⟩
  have h1 := ha false (some l) (by simp) Y k (hY.mono hk) H w hr _ _ hT' 0 (hmk0 _ _) (Nat.zero_le _) _ h
  refine wpIn_mono h1 fun e a₁ w₁ hp => ?_
  obtain ⟨t₁, H₁, k₁, b1, b2, b3, b4, b5, b6⟩ := hp
  cases e with
  | normal =>
    obtain ⟨c1, c2⟩ := b1
    have hw₁ : w₁.heap[l]? = some (ob .ready none) := (b3.own l _ c1).1
    have hw₁' := hw₁
    rw [hob] at hw₁'
    refine ⟨_, run_beginRound hw₁' rfl, ?_⟩
    obtain ⟨r1, r2⟩ := b3.setRaw c1 (hraw .busy none)
    have h2 := hb false (some l) (by simp) Y k₁ (hY.mono (hk.trans b2)) _ _ r1 a₁ t₁ b4 0 (b6.fr r2) (Nat.zero_le _) _ c2
    rw [hob] at h2
    refine wpIn_mono h2 fun e a₂ w₂ hp => ?_
    obtain ⟨t₂, H₂, k₂, d1, d2, d3, d4, d5, d6⟩ := hp
    rw [← hob] at d1 d5
    have fin : ∀ (jump : Option Code) (QY' : Bool), (∃ st j, H₂ l = some (.raw (ob st j))) → QY (.bool jump.isNone) (upd H₂ l (some (.raw (ob (if jump.isNone then .ready else .done) jump)))) →
        ∃ v w', (Instr.endRound l jump).run P w₂ = .ok v w' ∧ ∃ v', Ending.returned v = .returned v' ∧ OpPost k H w QY v' w' := by
      rintro jump _ ⟨st, j, hj⟩ hq
      have hw₂ : w₂.heap[l]? = some (ob st j) := (d3.own l _ hj).1
      rw [hob] at hw₂
      obtain ⟨s1, s2⟩ := d3.setRaw hj (hraw (if jump.isNone then .ready else .done) jump)
      refine ⟨_, _, run_endRound jump hw₂, _, rfl, _, _, k₂, hq, b2.trans d2, ?_, .bool _, ?_⟩
      · rw [hob] at s1 ⊢; exact s1
      · rw [hob] at s2 r2 d5 ⊢; exact ((b5.trans r2).trans d5).trans s2
    cases e with
    | normal => exact fin none true d1.1 d1.2
    | ret => exact fin (some .ret) true d1.1 d1.2
    | exit id => exact fin (some (.exit id)) true d1.1 d1.2
    | goto x => exact fin (some (.goto x)) true d1.1 d1.2
    | panic c => exact d1.elim
    | outgrown => exact d1.elim
  | _ => exact b1.elim

end
end Go.Av
