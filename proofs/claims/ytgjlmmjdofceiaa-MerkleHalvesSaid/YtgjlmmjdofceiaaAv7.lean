/-
  Abstract values: len, cap, min, max; 'pval_sound': an operation that only computes.
-/
import Derived.Test.YtgjlmmjdofceiaaAv6
namespace Go.Av
open Go.RowKit

theorem slen_sound {k : K} {v : Value} {x : V} {n : Nat} (hx : Conc k v x) (h : slen x = some n) : ∃ a c, v = .slice a n c := by
  cases hx <;> simp only [slen, Option.some.injEq, reduceCtorEq] at h <;> subst h <;> exact ⟨_, _, rfl⟩

theorem lenV_sound {P : Program} {k : K} {w : World} {t ty : TypeId} {v : Value} {x z : V} (hx : Conc k v x) (h : lenV P t x = some z) : ∃ c, (Builtin.len_ #[t] ty #[v]).run P w = .ok c w ∧ Conc k c z := by
  unfold lenV at h
  split at h
  · rename_i e hu
    simp only [Option.map_eq_some_iff] at h
    obtain ⟨n, hn, rfl⟩ := h
    obtain ⟨a, c, rfl⟩ := slen_sound hx hn
    exact ⟨_, by simp [Builtin.len_, run_underlying hu, goInt], .int _ _⟩
  · rename_i hu
    split at h
    · cases hx
      cases h
      exact ⟨_, by simp [Builtin.len_, run_underlying hu, goInt], .int _ _⟩
    · cases h
  · rename_i n e hu
    cases h
    exact ⟨.int .i64 n, by simp [Builtin.len_, run_underlying hu, goInt], .int _ _⟩
  · cases h

theorem capV_sound {P : Program} {k : K} {w : World} {t ty : TypeId} {v : Value} {x z : V} (hx : Conc k v x) (h : capV P t x = some z) : ∃ c, (Builtin.cap_ #[t] ty #[v]).run P w = .ok c w ∧ Conc k c z := by
  unfold capV at h
  split at h
  · rename_i e hu
    cases hx <;> try (simp at h; done)
    case nils => cases h; exact ⟨_, by simp [Builtin.cap_, run_underlying hu, goInt], .int _ _⟩
    case slnil sz full => cases full <;> simp at h; subst h; exact ⟨_, by simp [Builtin.cap_, run_underlying hu, goInt], .int _ _⟩
    case sl b off cap sz es full vs hsz hcap hf hM hc =>
      cases full <;> simp at h
      subst h
      have := hf rfl
      subst this
      exact ⟨_, by simp [Builtin.cap_, run_underlying hu, goInt], .int _ _⟩
  · cases h

theorem min2V_sound {P : Program} {k : K} {w : World} {v u : Value} {x y z : V} (hx : Conc k v x) (hy : Conc k u y) (h : min2V x y = some z) : ∃ c, (Builtin.min2 v u).run P w = .ok c w ∧ Conc k c z := by
  unfold min2V at h
  split at h
  · cases hx; cases hy; cases h; exact ⟨_, rfl, .int _ _⟩
  · cases h
theorem max2V_sound {P : Program} {k : K} {w : World} {v u : Value} {x y z : V} (hx : Conc k v x) (hy : Conc k u y) (h : max2V x y = some z) : ∃ c, (Builtin.max2 v u).run P w = .ok c w ∧ Conc k c z := by
  unfold max2V at h
  split at h
  · cases hx; cases hy; cases h; exact ⟨_, rfl, .int _ _⟩
  · cases h

theorem foldV_sound {P : Program} {k : K} {w : World} {f : V → V → Option V} {g : Value → Value → Sem Value}
    (hfg : ∀ {v u : Value} {x y z : V}, Conc k v x → Conc k u y → f x y = some z → ∃ c, (g v u).run P w = .ok c w ∧ Conc k c z) :
    ∀ (vs : List Value) (xs : List V) (v : Value) (x z : V), vs.length = xs.length → (∀ (j : Nat) u y, vs[j]? = some u → xs[j]? = some y → Conc k u y) → Conc k v x → foldV f x xs = some z →
      ∃ c, (vs.foldlM g v).run P w = .ok c w ∧ Conc k c z
  | [], xs, v, x, z, hl, _, hx, h => by
    obtain rfl : xs = [] := List.eq_nil_of_length_eq_zero (by simpa using hl.symm)
    simp only [foldV, Option.some.injEq] at h
    subst h
    exact ⟨v, rfl, hx⟩
  | u :: vs, xs, v, x, z, hl, hc, hx, h => by
    cases xs with
    | nil => simp at hl
    | cons y ys =>
      simp only [foldV, Option.bind_eq_some_iff] at h
      obtain ⟨q, hq, h⟩ := h
      obtain ⟨c, hc1, hc2⟩ := hfg hx (hc 0 u y (by simp) (by simp)) hq
      obtain ⟨d, hd1, hd2⟩ := foldV_sound hfg vs ys c q z (by simpa using hl) (fun j u y a b => hc (j + 1) u y (by simpa using a) (by simpa using b)) hc2 h
      exact ⟨d, by simp [List.foldlM_cons, hc1, hd1], hd2⟩

theorem builtinV_sound {P : Program} {k : K} {w : World} {b : Builtin} {ats : Array TypeId} {ty : TypeId} {cs : Array Bool} {vs : Array Value} {xs : List V} {z : V} (hx : ConcL k vs xs)
    (h : builtinV P b ats.toList xs = some z) : ∃ c, (builtin b ats ty cs vs).run P w = .ok (.value c) w ∧ Conc k c z := by
  obtain ⟨atl⟩ := ats
  obtain ⟨vl⟩ := vs
  simp only at h
  unfold builtinV at h
  obtain ⟨hl, hc⟩ := hx
  simp only [List.size_toArray] at hl
  split at h
  · match vl, hl with
    | [v], _ =>
      obtain ⟨c, h1, h2⟩ := lenV_sound (w := w) (ty := ty) (hc 0 v _ (by simp) (by simp)) h
      exact ⟨c, by simp [builtin, h1], h2⟩
  · match vl, hl with
    | [v], _ =>
      obtain ⟨c, h1, h2⟩ := capV_sound (w := w) (ty := ty) (hc 0 v _ (by simp) (by simp)) h
      exact ⟨c, by simp [builtin, h1], h2⟩
  · match vl, hl with
    | v :: vl, hl =>
      obtain ⟨c, h1, h2⟩ := foldV_sound (P := P) (w := w) (g := Builtin.min2) min2V_sound vl _ v _ z (by simpa using hl.symm) (fun j u y a b => hc (j + 1) u y (by simpa using a) (by simpa using b)) (hc 0 v _ (by simp) (by simp)) h
      exact ⟨c, by simp [builtin, Builtin.min_, h1], h2⟩
  · match vl, hl with
    | v :: vl, hl =>
      obtain ⟨c, h1, h2⟩ := foldV_sound (P := P) (w := w) (g := Builtin.max2) max2V_sound vl _ v _ z (by simpa using hl.symm) (fun j u y a b => hc (j + 1) u y (by simpa using a) (by simpa using b)) (hc 0 v _ (by simp) (by simp)) h
      exact ⟨c, by simp [builtin, Builtin.max_, h1], h2⟩
  · cases h

theorem ConcL.of_map {k : K} {f : Operand → Value} {g : Operand → V} (h : ∀ x, Conc k (f x) (g x)) (xs : Array Operand) : ConcL k (xs.map f) (xs.toList.map g) :=
  ⟨by simp, fun j v x a b => by
    simp only [Array.getElem?_map, Option.map_eq_some_iff] at a
    obtain ⟨o, ho, rfl⟩ := a
    simp only [List.getElem?_map, Array.getElem?_toList, ho, Option.map_some, Option.some.injEq] at b
    subst b
    exact h o⟩

/-- **AN OPERATION THAT ONLY COMPUTES.** -/
theorem pval_sound {P : Program} {k : K} {H : Hp} {w : World} {ρ : Operand → Value} {ev : Operand → V} (hr : Rel k H w) (he : ∀ x, Conc k (ρ x) (ev x)) {o : Oper} {z : V} (h : pval P H ev o.op = some z) :
    ∃ c, (execOp ρ o).run P w = .ok (.value c) w ∧ Conc k c z := by
  obtain ⟨dst, op, ty, pos, after, guard⟩ := o
  simp only at h
  cases op <;> simp only [pval, reduceCtorEq] at h
  case move x => cases h; exact ⟨_, rfl, he x⟩
  case assign x => cases h; exact ⟨_, rfl, he x⟩
  case pick c a b =>
    split at h
    · rename_i t ht
      cases h
      have := he c
      rw [ht] at this
      cases hcv : ρ c <;> rw [hcv] at this <;> cases this
      refine ⟨if t then ρ a else ρ b, by simp [execOp, hcv, asBool], ?_⟩
      cases t
      · exact he b
      · exact he a
    · cases h
  case load t a =>
    simp only [Option.bind_eq_some_iff] at h
    obtain ⟨⟨c, o⟩, hp, hl⟩ := h
    obtain ⟨u, h1, h2⟩ := load_sound hr (he a) hp hl
    exact ⟨u, by simp [execOp, h1], h2⟩
  case nilCheck x =>
    have hx := he x
    split at h <;> rename_i hev <;> (try rw [hev] at hx) <;> cases h
    · cases hv : ρ x <;> rw [hv] at hx <;> cases hx
      exact ⟨_, by simp [execOp, hv], .ptr _ _⟩
    · cases hv : ρ x <;> rw [hv] at hx <;> cases hx
      exact ⟨_, by simp [execOp, hv], .eptr _ _ _ _⟩
    · cases hv : ρ x <;> rw [hv] at hx <;> cases hx
      rename_i b o off vs hM hc
      exact ⟨_, by simp [execOp, hv], .cptr _ _ _ _ vs hM hc⟩
    · cases hv : ρ x <;> rw [hv] at hx <;> cases hx
      rename_i a c i1 i2 i3 i4
      exact ⟨.func (.func _) a c, by simp [execOp, hv], .fn _ _ _ _ _ i1 i3 i2 i4⟩
  case binOp op t x y yt =>
    obtain ⟨c, h1, h2⟩ := binV_sound (w := w) x y (he x) (he y) h
    exact ⟨c, by simp only [execOp, Sem.run_bind] at h1 ⊢; simp [h1], h2⟩
  case unOp op t x =>
    obtain ⟨c, h1, h2⟩ := unV_sound (P := P) (w := w) (he x) h
    exact ⟨c, by simp [execOp, h1], h2⟩
  case convert s d x =>
    obtain ⟨c, h1, h2⟩ := convV_sound (w := w) (he x) h
    exact ⟨c, by simp [execOp, h1], h2⟩
  case makeFunc f xs ys =>
    cases h
    obtain ⟨a1, a2⟩ := ConcL.of_map he xs
    obtain ⟨b1, b2⟩ := ConcL.of_map he ys
    exact ⟨.func f (xs.map ρ) (ys.map ρ), by simp [execOp, Instr.makeFunc], .fn _ _ _ _ _ a1 b1 a2 b2⟩
  case slice t x lo hi mx =>
    obtain ⟨c, h1, h2⟩ := sliceV_sound (w := w) (he x) (ConcO.map he lo) (ConcO.map he hi) (ConcO.map he mx) h
    exact ⟨c, by simp [execOp, h1], h2⟩
  case fieldAddr s x f =>
    simp only [Option.bind_eq_some_iff] at h
    obtain ⟨⟨o, ft⟩, hf, h⟩ := h
    obtain ⟨c, h1, h2⟩ := fieldAddr_sound (w := w) (he x) hf h
    exact ⟨c, by simp [execOp, h1], h2⟩
  case field t x f =>
    obtain ⟨c, h1, h2⟩ := fieldV_sound (w := w) (he x) h
    exact ⟨c, by simp [execOp, h1], h2⟩
  case indexAddr t x i =>
    obtain ⟨c, h1, h2⟩ := indexAddrV_sound (w := w) (he x) (he i) h
    exact ⟨c, by simp [execOp, h1], h2⟩
  case index t x i =>
    obtain ⟨c, h1, h2⟩ := indexV_sound (w := w) (he x) (he i) h
    exact ⟨c, by simp [execOp, h1], h2⟩
  case extract t i =>
    split at h
    · rename_i vs hev
      have hx := he t
      rw [hev] at hx
      cases hv : ρ t <;> rw [hv] at hx <;> cases hx
      rename_i cs hl hc
      have hlt : i < cs.size := by rw [← hl]; exact (List.getElem?_eq_some_iff.1 h).1
      have e1 : cs[i]? = some cs[i] := by simp [hlt]
      exact ⟨cs[i], by simp [execOp, hv, Instr.extract, e1], hc i _ _ e1 h⟩
    · cases h
  case build t parts =>
    obtain ⟨c, h1, h2⟩ := buildV_sound (P := P) (k := k) (w := w) (ps := parts.map fun (i, x) => (i, ρ x)) (by simp) (fun j p q a b => by
      simp only [Array.getElem?_map, Option.map_eq_some_iff] at a
      obtain ⟨⟨i, o⟩, ho, rfl⟩ := a
      simp only [List.getElem?_map, Array.getElem?_toList, ho, Option.map_some, Option.some.injEq] at b
      subst b
      exact ⟨rfl, he o⟩) h
    exact ⟨c, by simp only [execOp, Sem.run_bind, h1, Result.andThen_ok, Sem.run_pure], h2⟩
  case call c =>
    split at h
    · rename_i b hb
      obtain ⟨c', h1, h2⟩ := builtinV_sound (P := P) (w := w) (ty := ty) (cs := c.args.map fun | .const _ => true | _ => false) (ConcL.of_map he c.args) h
      obtain ⟨callee, args, argTypes⟩ := c
      simp only at hb
      subst hb
      exact ⟨c', by simp only [execOp, resolve, invoke, Sem.run_bind, Sem.run_pure, Result.andThen_ok]; exact h1, h2⟩
    · cases h

end Go.Av
