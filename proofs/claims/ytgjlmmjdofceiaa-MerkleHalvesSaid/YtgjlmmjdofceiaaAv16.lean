/-
  Abstract values: 'wpC', code, and its soundness.
-/
import Derived.Test.YtgjlmmjdofceiaaAv15
namespace Go.Av
open Go.RowKit

def thenA (K : T → Hp → Prop) (Q : Exit → T → Hp → Prop) : Exit → T → Hp → Prop
  | .normal, t, H => K t H
  | e, t, H => Q e t H

def inBlockA (id : Nat) (Q : Exit → T → Hp → Prop) : Exit → T → Hp → Prop
  | .exit id', t, H => if id' = id then Q .normal t H else Q (.exit id') t H
  | e, t, H => Q e t H

def noGotoA (Q : Exit → T → Hp → Prop) : Exit → T → Hp → Prop
  | .goto _, _, _ => False
  | e, t, H => Q e t H

def condA (c : V) (X Y : Prop) : Prop := match c with
  | .bool b => (b = true → X) ∧ (b = false → Y)
  | _ => False

def putsT (n : Nat) (t : T) (ps : List Tmp) (args : List V) : T := (ps.zip args).foldl (fun t (p, x) => putT n t (some p) x) t

/-- How a round of a range over a function ends. -/
def roundA (l : Nat) (ob : LoopState → Option Code → Obj) (QY : V → Hp → Prop) : Exit → T → Hp → Prop
  | .normal, _, H => (∃ st j, H l = some (.raw (ob st j))) ∧ QY (.bool true) (upd H l (some (.raw (ob .ready none))))
  | .ret, _, H => (∃ st j, H l = some (.raw (ob st j))) ∧ QY (.bool false) (upd H l (some (.raw (ob .done (some .ret)))))
  | .exit id, _, H => (∃ st j, H l = some (.raw (ob st j))) ∧ QY (.bool false) (upd H l (some (.raw (ob .done (some (.exit id))))))
  | .goto x, _, H => (∃ st j, H l = some (.raw (ob st j))) ∧ QY (.bool false) (upd H l (some (.raw (ob .done (some (.goto x))))))
  | _, _, _ => False

def onlyA (K : T → Hp → Prop) : Exit → T → Hp → Prop
  | .normal, t, H => K t H
  | _, _, _ => False

def endA (Q : Exit → T → Hp → Prop) (t : T) (H : Hp) : Option Code → Prop
  | none => Q .normal t H
  | some .ret => Q .ret t H
  | some (.exit id) => Q (.exit id) t H
  | some (.goto x) => Q (.goto x) t H
  | _ => False

def hasBody (P : Program) (f : FuncId) : Bool := match P.funcs[f]? with
  | some fn => fn.body.isSome && !(fn.name == "runtime.NumGoroutine")
  | none => false

theorem run_callFunc_body {P : Program} {f : FuncId} (h : hasBody P f = true) (args : Array Value) (w : World) : (callFunc f args).run P w = .ok (.enter f args) w := by
  unfold hasBody at h
  split at h
  · rename_i fn hf
    simp only [Bool.and_eq_true, Bool.not_eq_true', beq_eq_false_iff_ne] at h
    simp only [callFunc, Sem.run_bind, run_program, Result.andThen_ok, hf]
    have h1 : fn.body.isNone = false := by cases hb : fn.body <;> simp_all
    rw [if_neg (by simpa using h.2), if_neg (by simp [h1])]
    rfl
  · cases h

section
variable (P : Program) (S : Nat → Spec) (Y : YEnv) (O : List Nat) (n : Nat)

/-- **CODE.** -/
def wpC : Code → Bool → (Exit → T → Hp → Prop) → T → Hp → Prop
  | .skip, _, Q, t, H => Q .normal t H
  | .label _, _, Q, t, H => Q .normal t H
  | .exit id, _, Q, t, H => Q (.exit id) t H
  | .goto l, _, Q, t, H => Q (.goto l) t H
  | .ret, _, Q, t, H => Q .ret t H
  | .refuse _, _, _, _, _ => False
  | .seq x y, top, Q, t, H => wpC x top (thenA (fun t H => wpC y top Q t H) Q) t H
  | .cond c x y, top, Q, t, H => condA (evT t c) (wpC x top Q t H) (wpC y top Q t H)
  | .block id c, top, Q, t, H => wpC c top (inBlockA id Q) t H
  | .scope c, top, Q, t, H => wpC c top (noGotoA Q) t H
  | .loop c, top, Q, t, H => ∃ I : Nat → T → Hp → Prop, (∃ m, I m t H) ∧ ∀ m t H, I m t H → wpC c top (thenA (fun t' H' => ∃ m', m' < m ∧ I m' t' H') Q) t H
  | .region _ ops d, _, Q, t, H => if d = true then DrawOk P S Y O n ops t H (Q .normal) else wpOps P S Y O n ops ops.toList t H (Q .normal)
  | .rangeFunc g ps assign body, top, Q, t, H => top = true ∧ ∃ f first caps, evT t g = .fn (.func f) first caps ∧ hasBody P f = true ∧
      ∀ (l : Nat) (ob : LoopState → Option Code → Obj), H l = none →
        S f (upd Y l fun args H' QY => args.length = ps.size ∧ H' l = some (.raw (ob .ready none)) ∧
              wpC assign false (onlyA fun t₁ H₁ => H₁ l = some (.raw (ob .ready none)) ∧ wpC body false (roundA l ob QY) t₁ (upd H₁ l (some (.raw (ob .busy none))))) (putsT n t ps.toList args) H')
          (first ++ [.fn (.yield l) [] []] ++ caps) (upd H l (some (.raw (ob .ready none))))
          (fun _ H' => ∃ st jump, H' l = some (.raw (ob st jump)) ∧ st ≠ .busy ∧ endA Q t (upd H' l none) jump)
end

/-! ### laws -/
section
variable {P : Program} {F : Fence} {n : Nat} {b : Frame} {a : Act} {k : List Item} {cs : List Frame} {w : World}

theorem stepR_scope {c : Code} : step P (lone (b.atR a (.code (.scope c) :: k)) cs w) = .next (lone (b.atR a (.code c :: .inScope c :: k)) cs w) :=
  step_lone_go (by simp [stepG, stepG.exec, Frame.atR])
theorem stepR_inScope {c : Code} : step P (lone (b.atR a (.inScope c :: k)) cs w) = .next (lone (b.atR a k) cs w) :=
  step_lone_go (by simp [stepG, stepG.exec, Frame.atR])

theorem wpIn_scope {c : Code} {Q : Exit → Act → World → Prop} (h : c.wpIn F n P (Exit.noGoto Q) a w) : (Code.scope c).wpIn F n P Q a w := by
  intro b k cs hro hb hr
  have h0 : (lone (b.atR a (.code (.scope c) :: k)) cs w).fenced P F := fenced_calm hb hr rfl
  obtain ⟨e, a₁, w₁, hq, harr⟩ := h b (.inScope c :: k) cs hro hb hr
  cases e with
  | normal => exact ⟨.normal, a₁, w₁, hq, .head h0 stepR_scope (StepsIn.trans harr (.one (fenced_calm hb hr rfl) stepR_inScope))⟩
  | exit id =>
    have hx : exitTo id (.inScope c :: k) = exitTo id k := by simp [exitTo]
    exact ⟨.exit id, a₁, w₁, hq, fun k' hk => .head h0 stepR_scope (harr.1 k' (by rw [hx]; exact hk)),
      fun hr' hk => let ⟨k₁, h1, h2⟩ := harr.2 hr' (by rw [hx]; exact hk); ⟨k₁, h1, .head h0 stepR_scope h2⟩⟩
  | goto l => exact hq.elim
  | ret => exact ⟨_, a₁, w₁, hq, .of_steps (.one h0 stepR_scope) harr⟩
  | panic ch => exact ⟨_, a₁, w₁, hq, .of_steps (.one h0 stepR_scope) harr⟩
  | outgrown => exact ⟨_, a₁, w₁, hq, .of_steps (.one h0 stepR_scope) harr⟩

theorem wpIn_loop_ix {c : Code} {Q : Exit → Act → World → Prop} (J : Nat → Act → World → Prop) {m : Nat} (h₀ : J m a w)
    (round : ∀ m a w, J m a w → c.wpIn F n P (Exit.then (fun a' w' => ∃ m', m' < m ∧ J m' a' w') Q) a w) : (Code.loop c).wpIn F n P Q a w := by
  intro b k cs hro hb hr
  have key : ∀ j a w, J j a w →
      ∃ e a' w', Q e a' w' ∧ ArrivesIn (Machine.fenced P F) P (lone (b.atR a (.code c :: .inLoop c :: k)) cs w) b k cs e a' w' := by
    intro j
    induction j using Nat.strongRecOn with
    | _ j ih =>
      intro a w hI
      obtain ⟨e, a₁, w₁, hq, harr⟩ := round j a w hI b (.inLoop c :: k) cs hro hb hr
      cases e with
      | normal =>
        obtain ⟨m', hlt, hI₁⟩ := hq
        obtain ⟨e₂, a₂, w₂, hq₂, harr₂⟩ := ih m' hlt a₁ w₁ hI₁
        exact ⟨e₂, a₂, w₂, hq₂, .of_steps (StepsIn.trans harr (.one (fenced_calm hb hr rfl) stepR_inLoop)) harr₂⟩
      | exit id => exact ⟨_, a₁, w₁, hq, .pass (x := .inLoop c) rfl (fun _ _ => .inl (by simp)) harr⟩
      | goto l => exact ⟨_, a₁, w₁, hq, .pass (x := .inLoop c) rfl (fun _ _ => .inl (by simp)) harr⟩
      | ret => exact ⟨_, a₁, w₁, hq, .pass (x := .inLoop c) rfl (fun _ _ => .inl (by simp)) harr⟩
      | panic ch => exact ⟨_, a₁, w₁, hq, .pass (x := .inLoop c) rfl (fun _ _ => .inl (by simp)) harr⟩
      | outgrown => exact ⟨_, a₁, w₁, hq, .pass (x := .inLoop c) rfl (fun _ _ => .inl (by simp)) harr⟩
  obtain ⟨e, a', w', hq, harr⟩ := key m a w h₀
  exact ⟨e, a', w', hq, .of_steps (.one (fenced_calm hb hr rfl) stepR_loop) harr⟩
end

/-- The marks among the deferred calls. -/
def Mk (lo : Nat) (ds : List Deferred) (H : Hp) (w : World) : Prop :=
  ds.Pairwise (fun x y => x.target ≠ y.target) ∧ ∀ d ∈ ds, ∃ r, d.target = .collected r ∧ lo ≤ r ∧ r < w.heap.size ∧ H r = none ∧ w.heap[r]? = some (.deferred (some []))

theorem Mk.fr {lo : Nat} {ds : List Deferred} {H H' : Hp} {w w' : World} (h : Mk lo ds H w) (hf : Fr H w H' w') : Mk lo ds H' w' :=
  ⟨h.1, fun d hd => by
    obtain ⟨r, h1, h2, h3, h4, h5⟩ := h.2 d hd
    exact ⟨r, h1, h2, Nat.lt_of_lt_of_le h3 hf.size, hf.dom r h3 h4, (hf.same r h3 h4).trans h5⟩⟩

def StPostE (k : K) (H : Hp) (w : World) (n lo : Nat) (Q : Exit → T → Hp → Prop) (e : Exit) (a' : Act) (w' : World) : Prop :=
  ∃ t' H' k', Q e t' H' ∧ k.le k' ∧ Rel k' H' w' ∧ RelT k' n a' t' ∧ Fr H w H' w' ∧ Mk lo a'.defers H' w'

theorem StPostE.trans {k k₁ : K} {H H₁ : Hp} {w w₁ : World} {n lo : Nat} {Q : Exit → T → Hp → Prop} {e : Exit} {a' : Act} {w' : World} (hk : k.le k₁) (hf : Fr H w H₁ w₁) (h : StPostE k₁ H₁ w₁ n lo Q e a' w') : StPostE k H w n lo Q e a' w' := by
  obtain ⟨t', H', k', a, b, c, d, e, f⟩ := h
  exact ⟨t', H', k', a, hk.trans b, c, d, hf.trans e, f⟩

theorem StPostE.of {k : K} {H : Hp} {w : World} {n lo : Nat} {Q : Exit → T → Hp → Prop} {e : Exit} {a : Act} {t : T} (hr : Rel k H w) (hT : RelT k n a t) (hm : Mk lo a.defers H w) (h : Q e t H) : StPostE k H w n lo Q e a w :=
  ⟨t, H, k, h, K.le.refl _, hr, hT, Fr.refl _ _, hm⟩

theorem StPost.toE {k : K} {H : Hp} {w : World} {n lo : Nat} {Q : Exit → T → Hp → Prop} {a a' : Act} {w' : World} (hm : Mk lo a.defers H w) (h : StPost k H w n a.defers (Q .normal) a' w') : StPostE k H w n lo Q .normal a' w' := by
  obtain ⟨t', H', k', b1, b2, b3, b4, b5, b6⟩ := h
  exact ⟨t', H', k', b1, b2, b3, b4, b5, by rw [b6]; exact hm.fr b5⟩

theorem RelT.puts {k : K} {n : Nat} : ∀ (ps : List Tmp) (vs : List Value) (xs : List V) {a : Act} {t : T}, RelT k n a t → xs.length = vs.length → (∀ (j : Nat) v x, vs[j]? = some v → xs[j]? = some x → Conc k v x) →
    RelT k n { a with tmps := (ps.zip vs).foldl (fun tmps (t, a) => tmps.setIfInBounds t a) a.tmps } (putsT n t ps xs)
  | [], _, _, _, _, h, _, _ => h
  | _ :: _, [], [], _, _, h, _, _ => h
  | p :: ps, v :: vs, x :: xs, a, t, h, hl, hc => by
    have h1 := h.put (hc 0 v x rfl rfl) (some p)
    have h2 := RelT.puts ps vs xs h1 (by simpa using hl) (fun j v x a b => hc (j + 1) v x (by simpa using a) (by simpa using b))
    exact h2

theorem Rel.setRaw {k : K} {H : Hp} {w : World} (hr : Rel k H w) {l : Nat} {o o' : Obj} (hl : H l = some (.raw o)) (ho : ∀ cs e fr, o' ≠ .cells cs e fr) :
    Rel k (upd H l (some (.raw o'))) (w.putObj l o') ∧ Fr H w (upd H l (some (.raw o'))) (w.putObj l o') := by
  have hlt := hr.lt hl
  have hraw : w.heap[l]? = some o ∧ ∀ cs e fr, o ≠ .cells cs e fr := hr.own l _ hl
  refine ⟨⟨fun b o₁ v hm => ?_, fun b c hR => ?_, fun b x hb => ?_⟩, ⟨rfl, rfl, rfl, by simp, fun b hb hn => ?_, fun b hb hn => ?_⟩⟩
  · obtain ⟨h1, h2⟩ := hr.imm b o₁ v hm
    have hne : b ≠ l := fun e => by subst e; rw [h2] at hl; cases hl
    exact ⟨by rw [cell?_of_heap (World.putObj_heap_other hne)]; exact h1, by rw [upd_ne _ _ _ hne]; exact h2⟩
  · obtain ⟨cs, e, fr, h1, h2⟩ := hr.rows b c hR
    have hne : b ≠ l := fun e' => by subst e'; rw [h1] at hraw; cases hraw.1; exact hraw.2 _ _ _ rfl
    exact ⟨cs, e, fr, by rw [World.putObj_heap_other hne]; exact h1, h2⟩
  · by_cases e : b = l
    · subst e
      rw [upd_same] at hb
      cases hb
      exact ⟨World.putObj_heap_same hlt, ho⟩
    · rw [upd_ne _ _ _ e] at hb
      exact (hr.own b x hb).mono (K.le.refl _) (World.putObj_heap_other e)
  · have hne : b ≠ l := fun e => by subst e; rw [hn] at hl; cases hl
    exact World.putObj_heap_other hne
  · have hne : b ≠ l := fun e => by subst e; rw [hn] at hl; cases hl
    rw [upd_ne _ _ _ hne]; exact hn

end Go.Av
