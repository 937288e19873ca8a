/-
  Abstract values: an owned block is taken as lasting; a function's end.
-/
import Derived.Test.YtgjlmmjdofceiaaAv11
namespace Go.Av
open Go.RowKit

theorem Fr.dropOne {H : Hp} {w : World} (l : Nat) : Fr H w (upd H l none) w := ⟨rfl, rfl, rfl, Nat.le_refl _, fun _ _ _ => rfl, fun b _ h => by
  by_cases e : b = l
  · subst e; simp
  · rw [upd_ne _ _ _ e]; exact h⟩

theorem Rel.dropOne {k : K} {H : Hp} {w : World} (h : Rel k H w) (l : Nat) : Rel k (upd H l none) w := h.drop fun b x hb => by
  by_cases e : b = l
  · subst e; simp at hb
  · rwa [upd_ne _ _ _ e] at hb

/-! ### An owned block is taken as lasting: its names become values -/
mutual
def subV (b : Nat) (blk : Blk) : V → V
  | .osl b' i n sz full => if b' = b then match blk with
      | .arr sz' es => if sz' = sz ∧ i + n ≤ es.length then .sl sz ((es.drop i).take n) full else .junk
      | _ => .junk
    else .osl b' i n sz full
  | .ptr b' off => if b' = b then match blk with
      | .row cells => .cptr cells off
      | _ => .junk
    else .ptr b' off
  | .agg cs => .agg (subL b blk cs)
  | .tup cs => .tup (subL b blk cs)
  | .int k n => .int k n
  | .bool x => .bool x
  | .str s => .str s
  | .nilp => .nilp
  | .nils => .nils
  | .niln => .niln
  | .nilm => .nilm
  | .eptr b' i off sz => .eptr b' i off sz
  | .cptr e off => .cptr e off
  | .sl sz es full => .sl sz es full
  | .rsl b' off n sz => .rsl b' off n sz
  | .fn f a c => .fn f a c
  | .mp b' => .mp b'
  | .junk => .junk
def subL (b : Nat) (blk : Blk) : List V → List V
  | [] => []
  | x :: xs => subV b blk x :: subL b blk xs
end

theorem subL_len (b : Nat) (blk : Blk) : ∀ xs : List V, (subL b blk xs).length = xs.length
  | [] => rfl
  | _ :: xs => congrArg (· + 1) (subL_len b blk xs)

theorem subL_get (b : Nat) (blk : Blk) : ∀ (xs : List V) (j : Nat), (subL b blk xs)[j]? = (xs[j]?).map (subV b blk)
  | [], j => by simp [subL]
  | x :: xs, 0 => by simp [subL]
  | x :: xs, j + 1 => by simp only [subL, List.getElem?_cons_succ]; exact subL_get b blk xs j

def lasting : Blk → Bool
  | .row _ => true
  | .arr _ _ => true
  | _ => false

theorem freeze {k : K} {H : Hp} {w : World} (hr : Rel k H w) {b : Nat} {blk : Blk} (hb : H b = some blk) (hl : lasting blk = true) :
    ∃ k', k.le k' ∧ Rel k' (upd H b none) w ∧ ∀ v x, Conc k v x → Conc k' v (subV b blk x) := by
  have hrow : ∃ cs e, w.heap[b]? = some (.cells cs e (0, 0)) := by
    have := hr.own b blk hb
    cases blk with
    | row cells => obtain ⟨cs, e, h, _⟩ := this; exact ⟨cs, e, h⟩
    | arr sz es => obtain ⟨cs, e, h, _⟩ := this; exact ⟨cs, e, h⟩
    | raw o => cases hl
    | map es c => cases hl
  obtain ⟨cs, e, hcs⟩ := hrow
  obtain ⟨h1, h2⟩ := (hr.dropOne b).putM hcs (by simp)
  refine ⟨_, h1, h2, fun v x hc => ?_⟩
  have hM : ∀ o u, cs[o]? = some u → (k.putM b cs).M b o = some u := fun o u hu => by simp [K.putM, hu]
  have hown := hr.own b blk hb
  induction hc with
  | osl b' i n sz cap c full hR hcap hc hf =>
    simp only [subV]
    split
    · rename_i eb
      subst eb
      cases blk with
      | arr sz' es =>
        simp only
        split
        · rename_i hh
          obtain ⟨rfl, hle⟩ := hh
          obtain ⟨cs', e', g1, g2, g3, g4⟩ := hown
          rw [hcs] at g1
          cases g1
          have hlen : ((es.drop i).take n).length = n := by simp; omega
          have hget : ∀ p q, p < n → q < sz' → ∃ u, cs[i * sz' + p * sz' + q]? = some u := fun p q hp hq => by
            have : i * sz' + p * sz' + q < cs.size := by
              have h3 : (i + p) * sz' + q < es.length * sz' := flat_lt (by omega) hq
              rw [Nat.add_mul] at h3
              omega
            exact ⟨_, Array.getElem?_eq_getElem this⟩
          have := Conc.sl (k := k.putM b' cs) b' (i * sz') cap sz' ((es.drop i).take n) full (fun p q => cs.getD (i * sz' + p * sz' + q) undef)
            (fun e he => g3 e (List.mem_of_mem_drop (List.mem_of_mem_take he))) (by omega) (fun h => by rw [hlen]; exact hf h)
            (fun p q hp hq => by
              rw [hlen] at hp
              obtain ⟨u, hu⟩ := hget p q hp hq
              rw [hM _ u hu, Array.getD_eq_getD_getElem?, hu]; rfl)
            (fun p e q y hp hq => by
              have hp' := (List.getElem?_eq_some_iff.1 hp).1
              rw [hlen] at hp'
              rw [List.getElem?_take, if_pos hp', List.getElem?_drop] at hp
              obtain ⟨u, hu, hcu⟩ := g4 (i + p) e q y hp hq
              rw [Nat.add_mul] at hu
              rw [Array.getD_eq_getD_getElem?, hu]
              exact hcu.mono h1)
          rw [hlen] at this
          exact this
        · exact .junk _
      | _ => exact .junk _
    · exact .osl b' i n sz cap c full (h1.r _ _ hR) hcap hc hf
  | ptr b' off =>
    simp only [subV]
    split
    · rename_i eb
      subst eb
      cases blk with
      | row cells =>
        obtain ⟨cs', e', g1, g2⟩ := hown
        rw [hcs] at g1
        cases g1
        have := Conc.cptr (k := k.putM b' cs) b' 0 off cells (fun j => cs.getD j undef)
          (fun j hj => by
            rw [g2.1] at hj
            rw [Nat.zero_add, hM j _ (Array.getElem?_eq_getElem hj), Array.getD_eq_getD_getElem?, Array.getElem?_eq_getElem hj]; rfl)
          (fun j x hx => by
            have hj : j < cs.size := by rw [← g2.1]; exact (List.getElem?_eq_some_iff.1 hx).1
            rw [Array.getD_eq_getD_getElem?, Array.getElem?_eq_getElem hj]
            exact (g2.2 j _ x (Array.getElem?_eq_getElem hj) hx).mono h1)
        rw [Nat.zero_add] at this
        exact this
      | _ => exact .junk _
    · exact .ptr b' off
  | agg cs' xs hl' _ ih =>
    simp only [subV]
    refine .agg _ _ (by rw [subL_len]; exact hl') (fun j v y hv hy => ?_)
    rw [subL_get, Option.map_eq_some_iff] at hy
    obtain ⟨x, hx, rfl⟩ := hy
    exact ih j v x hv hx
  | tup cs' xs hl' _ ih =>
    simp only [subV]
    refine .tup _ _ (by rw [subL_len]; exact hl') (fun j v y hv hy => ?_)
    rw [subL_get, Option.map_eq_some_iff] at hy
    obtain ⟨x, hx, rfl⟩ := hy
    exact ih j v x hv hx
  | int i n => exact .int i n
  | bool x => exact .bool x
  | str s => exact .str s
  | nilp => exact .nilp
  | eptr b' i off sz => exact .eptr b' i off sz
  | cptr b' o off e vs hM' hc' _ => exact .cptr b' o off e vs (fun j hj => h1.m _ _ _ (hM' j hj)) (fun j x hx => (hc' j x hx).mono h1)
  | nils => exact .nils
  | slnil sz full => exact .slnil sz full
  | sl b' off cap sz es full vs a1 a2 a3 a4 a5 _ => exact .sl b' off cap sz es full vs a1 a2 a3 (fun i j hi hj => h1.m _ _ _ (a4 i j hi hj)) (fun i e j x p q => (a5 i e j x p q).mono h1)
  | rsl b' off n sz cap h => exact .rsl b' off n sz cap h
  | fn f a c xs ys g1 g2 g3 g4 _ _ => exact .fn f a c xs ys g1 g2 (fun j v x p q => (g3 j v x p q).mono h1) (fun j v x p q => (g4 j v x p q).mono h1)
  | niln => exact .niln
  | mp b' => exact .mp b'
  | nilm => exact .nilm
  | junk v => exact .junk v

/-- How a function ends: owned blocks may become values; others may be forgotten. -/
def sealA : List Nat → V → Hp → (V → Hp → Prop) → Prop
  | [], x, H, Q => ∃ H', (∀ b y, H' b = some y → H b = some y) ∧ Q x H'
  | b :: B, x, H, Q => ∃ blk, H b = some blk ∧ lasting blk = true ∧ sealA B (subV b blk x) (upd H b none) Q

theorem Fr.dropl {H H' : Hp} {w : World} (h : ∀ b y, H' b = some y → H b = some y) : Fr H w H' w := ⟨rfl, rfl, rfl, Nat.le_refl _, fun _ _ _ => rfl, fun b _ hn => by
  cases hh : H' b with
  | none => rfl
  | some y => rw [h b y hh] at hn; cases hn⟩

theorem sealA_sound {Q : V → Hp → Prop} : ∀ (B : List Nat) {k : K} {H : Hp} {w : World} (_ : Rel k H w) {v : Value} {x : V} (_ : Conc k v x), sealA B x H Q → OpPost k H w Q v w
  | [], k, H, w, hr, v, x, hc, ⟨H', h1, h2⟩ => ⟨x, H', k, h2, K.le.refl _, hr.drop h1, hc, Fr.dropl h1⟩
  | b :: B, k, H, w, hr, v, x, hc, ⟨blk, h1, h2, h3⟩ => by
    obtain ⟨k', g1, g2, g3⟩ := freeze hr h1 h2
    obtain ⟨y, H', k'', c1, c2, c3, c4, c5⟩ := sealA_sound B g2 (g3 v x hc) h3
    exact ⟨y, H', k'', c1, g1.trans c2, c3, c4, (Fr.dropOne b).trans c5⟩

end Go.Av
