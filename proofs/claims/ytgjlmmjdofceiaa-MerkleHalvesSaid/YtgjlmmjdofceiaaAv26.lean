/-
  Abstract values: specifications: one or the other; weaker values; pieces of a body.
-/
import Derived.Test.YtgjlmmjdofceiaaAv25
namespace Go.Av
open Go.RowKit

def Spec.or (s s' : Spec) : Spec := fun Y args H Q => s Y args H Q ∨ s' Y args H Q

theorem Sound.or {P : Program} {g : FuncId} {s s' : Spec} (h : Sound P g s) (h' : Sound P g s') : Sound P g (s.or s') := fun Y args H Q hs => by
  rcases hs with hs | hs
  · exact h Y args H Q hs
  · exact h' Y args H Q hs

/-- The one stands for no less than the other. -/
def Wk (x x' : V) : Prop := ∀ k v, Conc k v x → Conc k v x'

theorem Sound.wk {P : Program} {g : FuncId} {s s' : Spec} (hs : Sound P g s) (h : ∀ Y args H Q, s' Y args H Q → ∃ Q₁, s Y args H Q₁ ∧ ∀ x H', Q₁ x H' → ∃ x', Wk x x' ∧ Q x' H') : Sound P g s' := by
  intro Y args H Q h' k w cargs hY hr hc
  obtain ⟨Q₁, h1, h2⟩ := h Y args H Q h'
  have key : ∀ v w', OpPost k H w Q₁ v w' → OpPost k H w Q v w' := fun v w' ⟨x, H', k', a, b, c, d, e⟩ => by
    obtain ⟨x', hw, hq⟩ := h2 x H' a
    exact ⟨x', H', k', hq, b, c, hw _ _ d, e⟩
  rcases hs Y args H Q₁ h1 k w cargs hY hr hc with ⟨v, w', g1, g2⟩ | ⟨g1, g2⟩
  · exact .inl ⟨v, w', g1, key _ _ g2⟩
  · exact .inr ⟨g1, CallsIn.mono g2 fun e w' ⟨v, h3, h4⟩ => ⟨v, h3, key _ _ h4⟩⟩

theorem Wk.sl {sz : Nat} {es : List (List V)} {full : Bool} : Wk (.sl sz es full) (.sl sz es false) := fun k v hc => by
  cases hc with
  | slnil => exact .slnil _ _
  | sl b off cap sz es full vs h1 h2 h3 h4 h5 => exact .sl b off cap _ _ _ vs h1 h2 (fun h => by cases h) h4 h5

theorem Wk.nils {sz : Nat} : Wk .nils (.sl sz [] false) := fun k v hc => by
  cases hc
  exact .slnil _ _

theorem Wk.refl (x : V) : Wk x x := fun _ _ h => h


/-- Pieces of a body: a region by its number; a loop by its place. -/
def regsOf : Code → List (Nat × Code)
  | .seq x y => regsOf x ++ regsOf y
  | .cond _ x y => regsOf x ++ regsOf y
  | .block _ c => regsOf c
  | .scope c => regsOf c
  | .loop c => regsOf c
  | .region id ops d => [(id, .region id ops d)]
  | .rangeFunc _ _ a b => regsOf a ++ regsOf b
  | _ => []
def loopsOf : Code → List Code
  | .seq x y => loopsOf x ++ loopsOf y
  | .cond _ x y => loopsOf x ++ loopsOf y
  | .block _ c => loopsOf c
  | .scope c => loopsOf c
  | .loop c => .loop c :: loopsOf c
  | .rangeFunc f ps a b => .rangeFunc f ps a b :: (loopsOf a ++ loopsOf b)
  | _ => []
def pickR (id : Nat) : List (Nat × Code) → Code
  | [] => .skip
  | (i, c) :: r => if i = id then c else pickR id r
def pickL : Nat → List Code → Code
  | _, [] => .skip
  | 0, c :: _ => c
  | k + 1, _ :: r => pickL k r
def regAt (f : Func) (id : Nat) : Code := match f.body with
  | some c => pickR id (regsOf c)
  | none => .skip
def loopAt (f : Func) (k : Nat) : Code := match f.body with
  | some c => pickL k (loopsOf c)
  | none => .skip
def asgOf : Code → Code
  | .rangeFunc _ _ a _ => a
  | _ => .skip
def rbodyOf : Code → Code
  | .rangeFunc _ _ _ b => b
  | _ => .skip

theorem view_le {G H : Hp} (h : hle G H) {sz : Nat} {v : V} {es : List (List V)} (hv : view G sz v = some es) : view H sz v = some es := by
  unfold view at hv ⊢
  split at hv
  · exact hv
  · exact hv
  · split at hv
    · rename_i hb
      rw [h _ _ hb]
      exact hv
    · cases hv
  · split at hv
    · rename_i hb
      rw [h _ _ hb]
      exact hv
    · cases hv
  · cases hv

theorem hle_put {H H' : Hp} (h : hle H H') (b : Nat) (z : Option Blk) : hle (upd H b z) (upd H' b z) := fun c y hc => by
  by_cases e : c = b
  · subst e; rw [upd_eq] at hc ⊢; exact hc
  · rw [upd_ne _ _ _ e] at hc ⊢; exact h c y hc

/-- Without a block. -/
theorem hle_del (H : Hp) (b : Nat) : hle (upd H b none) H := fun c y hc => by
  by_cases e : c = b
  · subst e; rw [upd_eq] at hc; cases hc
  · rw [upd_ne _ _ _ e] at hc; exact hc
theorem hle_trans {A B C : Hp} (h : hle A B) (g : hle B C) : hle A C := fun b y hb => g b y (h b y hb)

section
variable {P : Program} {S : Nat → Spec} {Y : YEnv} {O : List Nat} {n : Nat}

theorem opA_quiet {ops : Array Oper} {C : Hp → Prop} {fx : Nat → Bool} {i : Nat} {o : Oper} {t : T} {H : Hp} {K : T → Hp → Prop} {x : V} (ho' : ops.toList[i]? = some o) (hf : fx i = false) (hg : wantedV ops t o.guard = some true)
    (h : quietV P S Y O C o t x) (hK : K (putT n t o.dst x) H) : opA P S Y O n ops C fx i K t H := by
  have ho : ops[i]? = some o := by rw [← Array.getElem?_toList]; exact ho'
  unfold opA
  simp only [ho, hg, hf]
  exact ⟨x, h, hK⟩

theorem wpC_range {g : Operand} {ps : Array Tmp} {assign body : Code} {Q : Exit → T → Hp → Prop} {t : T} {H : Hp} {f : FuncId} {first caps : List V} (hg : evT t g = .fn (.func f) first caps) (hB : hasBody P f = true)
    (h : ∀ (l : Nat) (ob : LoopState → Option Code → Obj), H l = none →
        S f (upd Y l fun args H' QY => args.length = ps.size ∧ H' l = some (.raw (ob .ready none)) ∧
              wpC P S Y O n assign false (onlyA fun t₁ H₁ => H₁ l = some (.raw (ob .ready none)) ∧ wpC P S Y O n body false (roundA l ob QY) t₁ (upd H₁ l (some (.raw (ob .busy none))))) (putsT n t ps.toList args) H')
          (first ++ [.fn (.yield l) [] []] ++ caps) (upd H l (some (.raw (ob .ready none))))
          (fun _ H' => ∃ st jump, H' l = some (.raw (ob st jump)) ∧ st ≠ .busy ∧ endA Q t (upd H' l none) jump)) : wpC P S Y O n (.rangeFunc g ps assign body) true Q t H := ⟨rfl, f, first, caps, hg, hB, h⟩
end
end Go.Av
