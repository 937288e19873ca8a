/-
  Abstract values: slicing, indexing, fields, building, len: what the machine does.
-/
import Derived.Test.YtgjlmmjdofceiaaAv4
namespace Go.Av
open Go.RowKit

def bndC (v : Option Value) (dflt max : Nat) : Option Nat :=
  match v with
  | none => some dflt
  | some (.int _ i) => if 0 ≤ i ∧ i ≤ max then some i.toNat else none
  | some _ => none

inductive ConcO (k : K) : Option Value → Option V → Prop
  | none : ConcO k none none
  | some (v : Value) (x : V) (h : Conc k v x) : ConcO k (some v) (some x)

theorem ConcO.map {k : K} {f : Operand → Value} {g : Operand → V} (h : ∀ x, Conc k (f x) (g x)) (o : Option Operand) : ConcO k (o.map f) (o.map g) := by
  cases o with
  | none => exact .none
  | some x => exact .some _ _ (h x)

theorem bnd_conc {k : K} {u : Option Value} {v : Option V} (h : ConcO k u v) {d m r : Nat} (hb : bnd v d m = some r) {m' : Nat} (hm : m ≤ m') : bndC u d m' = some r := by
  cases h with
  | none => exact hb
  | some u v hc =>
    unfold bnd at hb
    cases v <;> simp only [reduceCtorEq] at hb
    cases hc
    split at hb
    · rename_i hh
      cases hb
      simp only [bndC]
      rw [if_pos (by omega)]
    · cases hb

theorem run_bound {P : Program} {w : World} {u : Value} {d m r : Nat} {code : BoundsCode} (h : bndC (some u) d m = some r) : (Instr.sliceBound u m code).run P w = .ok r w := by
  unfold bndC at h
  cases u <;> simp only [reduceCtorEq] at h
  split at h
  · rename_i hh
    cases h
    simp [Instr.sliceBound, asIntOf, hh]
  · cases h

theorem run_bounds {P : Program} {w : World} {isS : Bool} {len cap : Nat} {lo hi mx : Option Value} {l h m : Nat} (hm : bndC mx cap cap = some m) (hh : bndC hi len m = some h) (hl : bndC lo 0 h = some l)
    (hx : mx.isSome = true → hi.isSome = true) : (Instr.sliceBounds isS len cap lo hi mx).run P w = .ok (l, h, m) w := by
  unfold Instr.sliceBounds
  cases mx with
  | none =>
    simp only [bndC, Option.some.injEq] at hm
    subst hm
    cases hi with
    | none =>
      simp only [bndC, Option.some.injEq] at hh
      subst hh
      cases lo with
      | none => simp only [bndC, Option.some.injEq] at hl; subst hl; simp
      | some v => simp [run_bound hl]
    | some v =>
      cases lo with
      | none => simp only [bndC, Option.some.injEq] at hl; subst hl; simp [run_bound hh]
      | some v' => simp [run_bound hh, run_bound hl]
  | some v =>
    cases hi with
    | none => simp at hx
    | some v' =>
      cases lo with
      | none => simp only [bndC, Option.some.injEq] at hl; subst hl; simp [run_bound hm, run_bound hh]
      | some v'' => simp [run_bound hm, run_bound hh, run_bound hl]

theorem bndC_le {v : Option Value} {d m r : Nat} (h : bndC v d m = some r) (hd : d ≤ m) : r ≤ m := by
  unfold bndC at h
  split at h
  · cases h; exact hd
  · split at h
    · cases h; omega
    · cases h
  · cases h
theorem bnd_le {v : Option V} {d m r : Nat} (h : bnd v d m = some r) (hd : d ≤ m) : r ≤ m := by
  unfold bnd at h
  split at h
  · cases h; exact hd
  · split at h
    · cases h; omega
    · cases h
  · cases h

theorem arrT_spec {P : Program} {t : TypeId} {n sz : Nat} (h : arrT P t = some (n, sz)) : ∃ e i, P.underlying t = some (.array n e) ∧ P.info? e = some i ∧ i.size = sz := by
  unfold arrT at h
  split at h
  · simp only [Option.map_eq_some_iff, Prod.mk.injEq] at h
    obtain ⟨i, hi, rfl, rfl⟩ := h
    exact ⟨_, i, by assumption, hi, rfl⟩
  · cases h
theorem sliT_spec {P : Program} {t : TypeId} {sz : Nat} (h : sliT P t = some sz) : ∃ e i, P.underlying t = some (.slice e) ∧ P.info? e = some i ∧ i.size = sz := by
  unfold sliT at h
  split at h
  · simp only [Option.map_eq_some_iff] at h
    obtain ⟨i, hi, rfl⟩ := h
    exact ⟨_, i, by assumption, hi, rfl⟩
  · cases h

theorem run_sizeOf' {P : Program} {w : World} {t : TypeId} {i : TypeInfo} (h : P.info? t = some i) : (sizeOf t).run P w = .ok i.size w := by simp [sizeOf, typeInfo, h]

theorem chunks_length (sz : Nat) : ∀ (n : Nat) (cs : List V), (chunks sz n cs).length = n
  | 0, _ => rfl
  | n + 1, cs => by simp [chunks, chunks_length sz n]
theorem chunks_get (sz : Nat) : ∀ (n : Nat) (cs : List V) (i : Nat), i < n → (chunks sz n cs)[i]? = some ((cs.drop (i * sz)).take sz)
  | 0, _, _, h => absurd h (Nat.not_lt_zero _)
  | n + 1, cs, 0, _ => by simp [chunks]
  | n + 1, cs, i + 1, h => by
    simp only [chunks, List.getElem?_cons_succ]
    rw [chunks_get sz n (cs.drop sz) i (by omega), List.drop_drop, Nat.succ_mul, Nat.add_comm]
theorem chunks_mem_len {sz n : Nat} {cs : List V} (h : n * sz ≤ cs.length) : ∀ e ∈ chunks sz n cs, e.length = sz := by
  intro e he
  obtain ⟨i, hi⟩ := List.mem_iff_getElem?.1 he
  have hlt : i < n := by have := (List.getElem?_eq_some_iff.1 hi).1; rwa [chunks_length] at this
  rw [chunks_get sz n cs i hlt] at hi
  cases hi
  have : (i + 1) * sz ≤ n * sz := Nat.mul_le_mul_right _ hlt
  rw [Nat.succ_mul] at this
  simp; omega

theorem chunk_idx {sz h l i j : Nat} (hh : i < h - l) (hj : j < sz) (hle : l ≤ h) : (l + i) * sz + j < h * sz := by
  have : (l + i + 1) * sz ≤ h * sz := Nat.mul_le_mul_right _ (by omega)
  rw [Nat.succ_mul] at this
  omega

theorem bnd_some_le {v : V} {d m r : Nat} (h : bnd (some v) d m = some r) : r ≤ m := by
  unfold bnd at h
  cases v <;> simp only [reduceCtorEq] at h
  split at h
  · cases h; omega
  · cases h
theorem bndC_some {u : Value} {d d' m r : Nat} (h : bndC (some u) d m = some r) : bndC (some u) d' m = some r := by
  unfold bndC at h ⊢
  cases u <;> exact h
theorem ConcO.none_of {k : K} {u : Option Value} {v : Option V} (h : ConcO k u v) (hv : v.isSome ≠ true) : u = Option.none := by
  cases h with
  | none => rfl
  | some _ _ _ => simp at hv
theorem ConcO.isSome {k : K} {u : Option Value} {v : Option V} (h : ConcO k u v) : u.isSome = v.isSome := by cases h <;> rfl

theorem sliceArr_sound {P : Program} {k : K} {w : World} {t : TypeId} {v : Value} {x z : V} {lo hi : Option Value} {lo' hi' : Option V} {n esz : Nat} (hat : arrT P t = some (n, esz)) (hx : Conc k v x)
    (h1 : ConcO k lo lo') (h2 : ConcO k hi hi') (h : sliceArr n esz x lo' hi' = some z) : ∃ c, (Instr.sliceAt t v lo hi none).run P w = .ok c w ∧ Conc k c z := by
  obtain ⟨e, i, hu, hi', hsz⟩ := arrT_spec hat
  simp only [sliceArr, Option.bind_eq_some_iff] at h
  obtain ⟨hb, hhb, lb, hlb, h⟩ := h
  have hle1 := bnd_le hhb (Nat.le_refl _)
  have hle2 := bnd_le hlb (Nat.zero_le _)
  have hB : (Instr.sliceBounds false n n lo hi none).run P w = .ok (lb, hb, n) w :=
    run_bounds (m := n) rfl (bnd_conc h2 hhb (Nat.le_refl _)) (bnd_conc h1 hlb (Nat.le_refl _)) (by simp)
  cases hx <;> try (simp at h; done)
  case ptr b off =>
    simp only [Option.some.injEq] at h
    subst h
    refine ⟨.slice (some (if n = lb then ⟨b, off, none⟩ else (⟨b, off, none⟩ : Addr).add (lb * esz))) (hb - lb) (n - lb), ?_, ?_⟩
    · simp [Instr.sliceAt, run_underlying hu, Instr.sureAddr, hB, run_sizeOf' hi', hsz]
    · have : (if n = lb then (⟨b, off, none⟩ : Addr) else (⟨b, off, none⟩ : Addr).add (lb * esz)) = ⟨b, if lb = n then off else off + lb * esz, none⟩ := by
        by_cases e' : lb = n
        · simp [e']
        · rw [if_neg (fun q => e' q.symm), if_neg e', addr_add]
      rw [this]
      exact .rsl _ _ _ _ _ (by omega)
  case cptr b o off el vs hM hc =>
    dsimp only at h
    split at h
    · rename_i hcond
      simp only [Option.some.injEq] at h
      subst h
      refine ⟨.slice (some ((⟨b, o + off, none⟩ : Addr).add (lb * esz))) (hb - lb) (n - lb), ?_, ?_⟩
      · have : ¬ n = lb := by omega
        simp [Instr.sliceAt, run_underlying hu, Instr.sureAddr, hB, run_sizeOf' hi', hsz, this]
      · rw [addr_add]
        have hlen : hb * esz ≤ el.length - off := by omega
        have key : ∀ i j, i < hb - lb → j < esz → off + (lb * esz + i * esz + j) < el.length := by
          intro i j hi hj
          have := chunk_idx hi hj hle2
          rw [Nat.add_mul] at this
          omega
        have hL : (hb - lb) = (chunks esz (hb - lb) (el.drop (off + lb * esz))).length := (chunks_length _ _ _).symm
        rw (config := { occs := .pos [1] }) [hL]
        refine .sl b (o + off + lb * esz) (n - lb) esz _ _ (fun i j => vs (off + (lb * esz + i * esz + j))) ?_ (by rw [chunks_length]; omega) ?_ ?_ ?_
        · refine chunks_mem_len ?_
          have : (hb - lb) * esz = hb * esz - lb * esz := Nat.sub_mul _ _ _
          simp; omega
        · intro hf
          rw [chunks_length]
          have : hb = n := by simpa using hf
          omega
        · intro i j hi hj
          rw [chunks_length] at hi
          have := hM _ (key i j hi hj)
          rw [← this]
          congr 1
          omega
        · intro i e' j y he hj
          have hi : i < hb - lb := by have := (List.getElem?_eq_some_iff.1 he).1; rwa [chunks_length] at this
          rw [chunks_get _ _ _ _ hi] at he
          cases he
          have hj' : j < esz := by
            have := (List.getElem?_eq_some_iff.1 hj).1
            simp only [List.length_take] at this
            omega
          rw [List.getElem?_take_of_lt hj', List.getElem?_drop, List.getElem?_drop] at hj
          refine hc _ _ ?_
          rw [← hj]
          congr 1
          omega
    · cases h

theorem sliceSl_sound {P : Program} {k : K} {w : World} {t : TypeId} {v : Value} {x z : V} {lo hi mx : Option Value} {lo' hi' mx' : Option V} {esz : Nat} (hst : sliT P t = some esz) (hx : Conc k v x)
    (h1 : ConcO k lo lo') (h2 : ConcO k hi hi') (h3 : ConcO k mx mx') (hxx : mx'.isSome = true → hi'.isSome = true) (h : sliceSl esz x lo' hi' mx' = some z) :
    ∃ c, (Instr.sliceAt t v lo hi mx).run P w = .ok c w ∧ Conc k c z := by
  obtain ⟨e, i, hu, hi', hsz⟩ := sliT_spec hst
  rw [← h3.isSome, ← h2.isSome] at hxx
  have hAt : ∀ (v : Value) (lo hi mx : Option Value), (Instr.sliceAt t v lo hi mx).run P w = (Instr.slice t v lo hi mx).run P w := fun v lo hi mx => by simp [Instr.sliceAt, run_underlying hu]
  rw [hAt]
  cases hx <;> try (simp [sliceSl] at h; done)
  case nils =>
    simp only [sliceSl, Option.bind_eq_some_iff, Option.some.injEq] at h
    obtain ⟨m, hm, hb, hhb, lb, hlb, rfl⟩ := h
    have e1 := bnd_le hm (Nat.le_refl _)
    have e2 := bnd_le hhb (Nat.zero_le _)
    have e3 := bnd_le hlb (Nat.zero_le _)
    have hB : (Instr.sliceBounds true 0 0 lo hi mx).run P w = .ok (lb, hb, m) w := run_bounds (bnd_conc h3 hm (Nat.le_refl _)) (bnd_conc h2 hhb (Nat.le_refl _)) (bnd_conc h1 hlb (Nat.le_refl _)) hxx
    obtain rfl : m = 0 := by omega
    obtain rfl : hb = 0 := by omega
    obtain rfl : lb = 0 := by omega
    exact ⟨.slice none 0 0, by simp [Instr.slice, run_underlying hu, hB, run_sizeOf' hi'], .nils⟩
  case slnil sz full =>
    simp only [sliceSl] at h
    split at h
    · simp only [Option.bind_eq_some_iff, Option.some.injEq] at h
      obtain ⟨m, hm, hb, hhb, lb, hlb, rfl⟩ := h
      have e1 := bnd_le hm (Nat.le_refl _)
      have e2 := bnd_le hhb (by simp)
      have e3 := bnd_le hlb (Nat.zero_le _)
      have hB : (Instr.sliceBounds true 0 0 lo hi mx).run P w = .ok (lb, hb, m) w := run_bounds (bnd_conc h3 hm (Nat.le_refl _)) (bnd_conc h2 hhb (Nat.le_refl _)) (bnd_conc h1 hlb (Nat.le_refl _)) hxx
      simp only [List.length_nil, Nat.le_zero] at e1
      obtain rfl : m = 0 := by omega
      obtain rfl : hb = 0 := by omega
      obtain rfl : lb = 0 := by omega
      exact ⟨.slice none 0 0, by simp [Instr.slice, run_underlying hu, hB, run_sizeOf' hi'], .slnil _ _⟩
    · cases h
  case sl b off cap sz es full vs hszs hcap hf hM hc =>
    simp only [sliceSl] at h
    split at h
    · rename_i hse
      simp only [Option.bind_eq_some_iff, Option.some.injEq] at h
      obtain ⟨m, hm, hb, hhb, lb, hlb, rfl⟩ := h
      have e1 := bnd_le hm (Nat.le_refl _)
      have e3 := bnd_le hlb (Nat.zero_le _)
      have e2 : hb ≤ m := by
        cases h2 with
        | none =>
          simp only [bnd, Option.some.injEq] at hhb
          cases h3 with
          | none => simp only [bnd, Option.some.injEq] at hm; omega
          | some _ _ _ => simp at hxx
        | some u' v'' hc'' => exact bnd_some_le hhb
      obtain ⟨m', hB, hm1, hm2, hm3⟩ : ∃ m', (Instr.sliceBounds true es.length cap lo hi mx).run P w = .ok (lb, hb, m') w ∧ hb ≤ m' ∧ m' ≤ cap ∧ (mx'.isSome = true → m' = m) ∧ (mx'.isSome ≠ true → m' = cap) := by
        cases h3 with
        | none =>
          simp only [bnd, Option.some.injEq] at hm
          subst hm
          exact ⟨cap, run_bounds rfl (bnd_conc h2 hhb hcap) (bnd_conc h1 hlb (Nat.le_refl _)) hxx, by omega, Nat.le_refl _, by simp, by simp⟩
        | some u v' hc' =>
          have := bnd_conc (.some _ _ hc') hm hcap
          exact ⟨m, run_bounds (bndC_some this) (bnd_conc h2 hhb (Nat.le_refl _)) (bnd_conc h1 hlb (Nat.le_refl _)) hxx, by omega, by omega, by simp, by simp⟩
      refine ⟨_, by simp only [Instr.slice, Sem.run_bind, run_underlying hu, Result.andThen_ok, hB, run_sizeOf' hi', Sem.run_pure]; rfl, ?_⟩
      have hL : (hb - lb) = ((es.take hb).drop lb).length := by simp; omega
      by_cases e' : m' = lb
      · have e0 : (es.take hb).drop lb = [] := List.eq_nil_of_length_eq_zero (by rw [← hL]; omega)
        rw [if_pos e', e0, show hb - lb = ([] : List (List V)).length by simp; omega]
        exact .sl b off (m' - lb) sz [] _ vs (by simp) (by simp) (by intro hf'; simp; omega) (by simp) (by simp)
      · rw [if_neg e', hL]
        simp only [Option.map_some]
        rw [hsz, ← hse, addr_add]
        refine .sl b (off + lb * sz) (m' - lb) sz _ _ (fun i j => vs (lb + i) j) ?_ (by rw [← hL]; omega) ?_ ?_ ?_
        · intro e he
          exact hszs e (List.mem_of_mem_take (List.mem_of_mem_drop he))
        · intro hf'
          rw [← hL]
          split at hf'
          · rename_i hs; have := hm3.1 hs; simp only [decide_eq_true_eq] at hf'; omega
          · rename_i hs
            have := hm3.2 hs
            simp only [Bool.and_eq_true, decide_eq_true_eq] at hf'
            have := hf hf'.1
            omega
        · intro i j hi hj
          rw [← hL] at hi
          have := hM (lb + i) j (by omega) hj
          rw [← this, Nat.add_mul]
          congr 1
          omega
        · intro i e j x he hx
          rw [List.getElem?_drop, List.getElem?_take] at he
          split at he
          · exact hc (lb + i) e j x he hx
          · cases he
    · cases h
  case osl b i0 n sz cap c full hR hcap hc hf =>
    simp only [sliceSl] at h
    split at h
    · rename_i hse
      simp only [Option.bind_eq_some_iff, Option.some.injEq] at h
      obtain ⟨m, hm, hb, hhb, lb, hlb, h⟩ := h
      subst h
      have e1 := bnd_le hm (Nat.le_refl _)
      have e3 := bnd_le hlb (Nat.zero_le _)
      obtain ⟨m', hB, hm1, hm2, hm3⟩ : ∃ m', (Instr.sliceBounds true n cap lo hi mx).run P w = .ok (lb, hb, m') w ∧ hb ≤ m' ∧ m' ≤ cap ∧ (mx'.isSome = true → m' = m) ∧ (mx'.isSome ≠ true → m' = cap) := by
        cases h3 with
        | none =>
          simp only [bnd, Option.some.injEq] at hm
          subst hm
          have := bnd_le hhb (Nat.le_refl _)
          exact ⟨cap, run_bounds rfl (bnd_conc h2 hhb hcap) (bnd_conc h1 hlb (Nat.le_refl _)) hxx, by omega, Nat.le_refl _, by simp, by simp⟩
        | some u v' hc' =>
          have := bnd_conc (.some _ _ hc') hm hcap
          refine ⟨m, run_bounds (bndC_some this) (bnd_conc h2 hhb (Nat.le_refl _)) (bnd_conc h1 hlb (Nat.le_refl _)) hxx, ?_, by omega, by simp, by simp⟩
          simp only [Option.isSome_some, forall_const] at hxx
          cases h2 with
          | none => simp at hxx
          | some u' v'' hc'' => exact bnd_some_le hhb
      refine ⟨_, by simp only [Instr.slice, Sem.run_bind, run_underlying hu, Result.andThen_ok, hB, run_sizeOf' hi', Sem.run_pure]; rfl, ?_⟩
      by_cases hl0 : lb = 0 ∨ lb < hb
      · rw [if_pos hl0]
        have ha : (if m' = lb then (some ⟨b, i0 * sz, none⟩ : Option Addr) else (some ⟨b, i0 * sz, none⟩ : Option Addr).map (·.add (lb * i.size))) = some ⟨b, (i0 + lb) * sz, none⟩ := by
          split
          · rcases hl0 with rfl | hl0
            · simp
            · omega
          · rw [Nat.add_mul]; simp [addr_add, hsz, hse]
        rw [ha]
        refine .osl b (i0 + lb) (hb - lb) sz (m' - lb) c _ hR (by omega) ?_ ?_
        · have : (i0 + lb + (m' - lb)) * sz ≤ (i0 + cap) * sz := Nat.mul_le_mul_right _ (by omega)
          omega
        · intro hf'
          split at hf'
          · rename_i hs; have := hm3.1 hs; simp only [decide_eq_true_eq] at hf'; omega
          · rename_i hs
            have := hm3.2 hs
            simp only [Bool.and_eq_true, decide_eq_true_eq] at hf'
            have := hf hf'.1
            omega
      · rw [if_neg hl0]
        have e0 : hb - lb = ([] : List (List V)).length := by simp; omega
        rw [e0]
        split
        · exact .sl b _ (m' - lb) sz [] false (fun _ _ => undef) (by simp) (by simp) (by simp) (by simp) (by simp)
        · simp only [Option.map_some, addr_add]
          exact .sl b _ (m' - lb) sz [] false (fun _ _ => undef) (by simp) (by simp) (by simp) (by simp) (by simp)
    · cases h
  case rsl b off n sz cap hcap =>
    simp only [sliceSl] at h
    split at h
    · rename_i hse
      obtain ⟨hse, hmx⟩ := hse
      have hmn : mx = Option.none := h3.none_of (by cases mx' <;> simp_all)
      subst hmn
      simp only [Option.bind_eq_some_iff, Option.some.injEq] at h
      obtain ⟨hb, hhb, lb, hlb, h⟩ := h
      subst h
      have e1 := bnd_le hhb (Nat.le_refl _)
      have e2 := bnd_le hlb (Nat.zero_le _)
      have hB : (Instr.sliceBounds true n cap lo hi none).run P w = .ok (lb, hb, cap) w := run_bounds rfl (bnd_conc h2 hhb hcap) (bnd_conc h1 hlb (Nat.le_refl _)) (by simp)
      refine ⟨_, by simp only [Instr.slice, Sem.run_bind, run_underlying hu, Result.andThen_ok, hB, run_sizeOf' hi', Sem.run_pure]; rfl, ?_⟩
      by_cases hl0 : lb = 0 ∨ lb < hb
      · rw [if_pos hl0]
        have ha : (if cap = lb then (some ⟨b, off, none⟩ : Option Addr) else (some ⟨b, off, none⟩ : Option Addr).map (·.add (lb * i.size))) = some ⟨b, off + lb * sz, none⟩ := by
          split
          · rcases hl0 with rfl | hl0
            · simp
            · omega
          · simp [addr_add, hsz, hse]
        rw [ha]
        exact .rsl _ _ _ _ _ (by omega)
      · rw [if_neg hl0]
        have e0 : hb - lb = ([] : List (List V)).length := by simp; omega
        rw [e0]
        split
        · exact .sl b _ (cap - lb) sz [] false (fun _ _ => undef) (by simp) (by simp) (by simp) (by simp) (by simp)
        · simp only [Option.map_some, addr_add]
          exact .sl b _ (cap - lb) sz [] false (fun _ _ => undef) (by simp) (by simp) (by simp) (by simp) (by simp)
    · cases h

theorem sliceV_sound {P : Program} {k : K} {w : World} {t : TypeId} {v : Value} {x z : V} {lo hi mx : Option Value} {lo' hi' mx' : Option V} (hx : Conc k v x)
    (h1 : ConcO k lo lo') (h2 : ConcO k hi hi') (h3 : ConcO k mx mx') (h : sliceV P t x lo' hi' mx' = some z) : ∃ c, (Instr.sliceAt t v lo hi mx).run P w = .ok c w ∧ Conc k c z := by
  unfold sliceV at h
  split at h
  · cases h
  · rename_i hg
    split at h
    · rename_i n esz _ _ hat
      split at h
      · cases h
      · rename_i hm
        rw [h3.none_of hm]
        exact sliceArr_sound hat hx h1 h2 h
    · rename_i esz _ _ hst
      refine sliceSl_sound hst hx h1 h2 h3 (fun hm => ?_) h
      cases hh : hi' with
      | none => exact absurd ⟨hm, by simp [hh]⟩ hg
      | some _ => rfl
    · rename_i hu
      split at h
      · cases h
      · rename_i hm
        rw [h3.none_of hm]
        unfold sliceStr at h
        split at h
        · rename_i s
          simp only [Option.bind_eq_some_iff, Option.some.injEq] at h
          obtain ⟨hb, hhb, lb, hlb, rfl⟩ := h
          cases hx
          have hB : (Instr.sliceBounds false s.size s.size lo hi none).run P w = .ok (lb, hb, s.size) w := run_bounds rfl (bnd_conc h2 hhb (Nat.le_refl _)) (bnd_conc h1 hlb (Nat.le_refl _)) (by simp)
          exact ⟨.string (s.extract lb hb), by simp [Instr.sliceAt, Instr.slice, run_underlying hu, hB], .str _⟩
        · cases h
    · cases h

end Go.Av
