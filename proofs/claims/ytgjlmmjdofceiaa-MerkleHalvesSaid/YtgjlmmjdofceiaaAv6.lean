/-
  Abstract values: indexing, fields, building, len and its kin; 'pval_sound'.
-/
import Derived.Test.YtgjlmmjdofceiaaAv5
namespace Go.Av
open Go.RowKit

theorem shiftP_sound {k : K} {v : Value} {x z : V} {o : Nat} (hx : Conc k v x) (h : shiftP x o = some z) : ∃ b p, v = .pointer (some ⟨b, p, none⟩) ∧ Conc k (.pointer (some ⟨b, p + o, none⟩)) z := by
  cases hx <;> simp only [shiftP, Option.some.injEq, reduceCtorEq] at h
  case ptr b off => subst h; exact ⟨b, off, rfl, .ptr _ _⟩
  case eptr b i off sz => subst h; exact ⟨b, i * sz + off, rfl, by rw [Nat.add_assoc]; exact .eptr _ _ _ _⟩
  case cptr b p off e vs hM hc => subst h; exact ⟨b, p + off, rfl, by rw [Nat.add_assoc]; exact .cptr _ _ _ _ vs hM hc⟩

theorem idxOf_sound {k : K} {v : Value} {x : V} {n i : Nat} (hx : Conc k v x) (h : idxOf x n = some i) : ∃ j q, v = .int j q ∧ 0 ≤ q ∧ q < (n : Int) ∧ q.toNat = i ∧ i < n := by
  cases hx <;> simp only [idxOf, reduceCtorEq] at h
  case int j q =>
    split at h
    · rename_i hq
      simp only [Option.some.injEq] at h
      exact ⟨j, q, rfl, hq.1, hq.2, h, by omega⟩
    · cases h

theorem indexAddrV_sound {P : Program} {k : K} {w : World} {t : TypeId} {v u : Value} {x y z : V} (hx : Conc k v x) (hy : Conc k u y) (h : indexAddrV P t x y = some z) :
    ∃ c, (Instr.indexAt t v u).run P w = .ok c w ∧ Conc k c z := by
  unfold indexAddrV at h
  split at h
  · rename_i n esz hat
    obtain ⟨e, i, hu, hi', hsz⟩ := arrT_spec hat
    simp only [Option.bind_eq_some_iff] at h
    obtain ⟨j, hj, h⟩ := h
    obtain ⟨kk, q, rfl, h0, h1, h2, _⟩ := idxOf_sound hy hj
    obtain ⟨b, p, rfl, hc⟩ := shiftP_sound hx h
    refine ⟨_, ?_, hc⟩
    simp [Instr.indexAt, asIntOf, run_underlying hu, Instr.sureAddr, h0, h1, run_sizeOf' hi', hsz, h2, addr_add]
  · simp only [Option.bind_eq_some_iff] at h
    obtain ⟨esz, hst, h⟩ := h
    obtain ⟨e, i, hu, hi', hsz⟩ := sliT_spec hst
    have core : ∀ (b p len cap : Nat) (kk : IntKind) (q : Int), 0 ≤ q → q < (len : Int) → (Instr.indexAt t (.slice (some ⟨b, p, none⟩) len cap) (.int kk q)).run P w = .ok (.pointer (some ⟨b, p + q.toNat * esz, none⟩)) w := by
      intro b p len cap kk q h0 h1
      simp [Instr.indexAt, asIntOf, run_underlying hu, h0, h1, run_sizeOf' hi', hsz, addr_add]
    cases hx <;> dsimp only at h <;> try (cases h; done)
    case slnil sz full =>
      split at h
      · simp at h
      · cases h
    case sl b off cap sz es full vs hszs hcap hf hM hc =>
      split at h
      · rename_i hse
        simp only [Option.bind_eq_some_iff, Option.map_eq_some_iff] at h
        obtain ⟨j, hj, el, hel, rfl⟩ := h
        obtain ⟨kk, q, rfl, h0, h1, h2, h3⟩ := idxOf_sound hy hj
        refine ⟨_, core b off es.length cap kk q h0 h1, ?_⟩
        have hl := hszs el (List.mem_of_getElem? hel)
        have := Conc.cptr (k := k) b (off + j * sz) 0 el (fun m => vs j m) (fun m hm => hM j m h3 (by omega)) (fun m x hx => hc j el m x hel hx)
        rw [h2, ← hse]
        exact this
      · cases h
    case osl b i0 n sz cap c full hR hcap hc hf =>
      split at h
      · rename_i hse
        simp only [Option.map_eq_some_iff] at h
        obtain ⟨j, hj, rfl⟩ := h
        obtain ⟨kk, q, rfl, h0, h1, h2, h3⟩ := idxOf_sound hy hj
        refine ⟨_, core b (i0 * sz) n cap kk q h0 h1, ?_⟩
        rw [h2, ← hse, ← Nat.add_mul]
        exact .eptr b (i0 + j) 0 sz
      · cases h
    case rsl b off n sz cap hcap =>
      split at h
      · rename_i hse
        simp only [Option.map_eq_some_iff] at h
        obtain ⟨j, hj, rfl⟩ := h
        obtain ⟨kk, q, rfl, h0, h1, h2, h3⟩ := idxOf_sound hy hj
        refine ⟨_, core b off n cap kk q h0 h1, ?_⟩
        rw [h2, ← hse]
        exact .ptr _ _
      · cases h

/-- A part of an aggregate. -/
theorem part_sound {P : Program} {k : K} {w : World} {t : TypeId} {cs : Array Value} {xs : List V} {off : Nat} {y : V} (hx : ConcL k cs xs) (hy : ldc (tyT P t) xs off = some y) :
    ∃ u, (part t cs off).run P w = .ok u w ∧ Conc k u y := by
  unfold ldc at hy
  split at hy
  · rename_i n ht
    split at hy
    · rename_i hle
      cases hy
      obtain ⟨ha, hs⟩ := run_isAgg_ty ht w
      refine ⟨.agg (cs.extract off (off + n)), by simp [part, ha, hs], .agg _ _ ?_ (fun j v x h1 h2 => ?_)⟩
      · have := hx.1
        simp; omega
      · have hj : j < n := by
          have := (List.getElem?_eq_some_iff.1 h2).1
          simp only [List.length_take] at this
          omega
        rw [List.getElem?_take_of_lt hj, List.getElem?_drop] at h2
        rw [Array.getElem?_extract] at h1
        split at h1
        · exact hx.2 _ v x h1 h2
        · cases h1
    · cases hy
  · rename_i n ht
    obtain ⟨ha, hs⟩ := run_isAgg_ty ht w
    have hlt : off < cs.size := by rw [← hx.1]; exact (List.getElem?_eq_some_iff.1 hy).1
    have e1 : cs[off]? = some cs[off] := by simp [hlt]
    exact ⟨cs[off], by simp [part, ha, e1], hx.2 _ _ _ e1 hy⟩
  · cases hy

theorem indexV_sound {P : Program} {k : K} {w : World} {t : TypeId} {v u : Value} {x y z : V} (hx : Conc k v x) (hy : Conc k u y) (h : indexV P t x y = some z) :
    ∃ c, (Instr.index t v u).run P w = .ok c w ∧ Conc k c z := by
  unfold indexV at h
  split at h
  · rename_i n e cs hu
    simp only [Option.bind_eq_some_iff] at h
    obtain ⟨j, hj, h⟩ := h
    obtain ⟨kk, q, rfl, h0, h1, h2, h3⟩ := idxOf_sound hy hj
    split at h
    · rename_i c sz ht
      cases hx with
      | agg ds _ hl hc =>
        have hs := (run_isAgg_ty ht w).2
        obtain ⟨r, hr, hcr⟩ := part_sound (P := P) (w := w) (t := e) (off := j * sz) ⟨hl, hc⟩ (by rw [ht]; exact h)
        refine ⟨r, ?_, hcr⟩
        simp [Instr.index, asIntOf, run_underlying hu, h0, h1, hs, h2, hr]
    · cases h
  · rename_i s hu
    simp only [Option.bind_eq_some_iff, Option.map_eq_some_iff] at h
    obtain ⟨j, hj, b, hb, rfl⟩ := h
    obtain ⟨kk, q, rfl, h0, h1, h2, h3⟩ := idxOf_sound hy hj
    cases hx
    refine ⟨.int .u8 b.toNat, ?_, .int _ _⟩
    simp [Instr.index, asIntOf, run_underlying hu, h0, h2, hb]
  · cases h

theorem fldT_spec {P : Program} {s : TypeId} {f o : Nat} {ft : TypeId} (h : fldT P s f = some (o, ft)) : ∃ fs x i, P.underlying s = some (.struct fs) ∧ fs[f]? = some x ∧ x.offset = o ∧ x.type = ft ∧ P.info? x.type = some i ∧ i.size ≠ 0 := by
  unfold fldT at h
  split at h
  · rename_i fs hu
    simp only [Option.bind_eq_some_iff] at h
    obtain ⟨x, hx, h⟩ := h
    split at h
    · rename_i i hi
      split at h
      · cases h
      · rename_i hsz
        cases h
        exact ⟨fs, x, i, hu, hx, rfl, rfl, hi, hsz⟩
    · cases h
  · cases h

theorem fieldV_sound {P : Program} {k : K} {w : World} {t : TypeId} {f : Nat} {v : Value} {x z : V} (hx : Conc k v x) (h : fieldV P t x f = some z) :
    ∃ c, (Instr.field t v f).run P w = .ok c w ∧ Conc k c z := by
  unfold fieldV at h
  split at h
  · rename_i o ft cs hf
    obtain ⟨fs, y, i, hu, hy, rfl, rfl, _, _⟩ := fldT_spec hf
    cases hx with
    | agg ds _ hl hc =>
      obtain ⟨r, hr, hcr⟩ := part_sound (P := P) (w := w) ⟨hl, hc⟩ h
      exact ⟨r, by simp [Instr.field, run_underlying hu, hy, asAgg, hr], hcr⟩
  · cases h

theorem fieldAddr_sound {P : Program} {k : K} {w : World} {s : TypeId} {f o : Nat} {ft : TypeId} {v : Value} {x z : V} (hx : Conc k v x) (hf : fldT P s f = some (o, ft)) (h : shiftP x o = some z) :
    ∃ c, (Instr.fieldAt s v f).run P w = .ok c w ∧ Conc k c z := by
  obtain ⟨fs, y, i, hu, hy, rfl, rfl, hi, hsz⟩ := fldT_spec hf
  obtain ⟨b, p, rfl, hc⟩ := shiftP_sound hx h
  exact ⟨_, by simp [Instr.fieldAt, run_underlying hu, hy, Instr.sureAddr, fieldPlace, run_sizeOf' hi, hsz, addr_add], hc⟩

theorem cellsV_sound {k : K} {v : Value} {x : V} {xs : List V} (hx : Conc k v x) (h : cellsV x = some xs) : ConcL k v.cells xs := by
  have one : ∀ (v : Value) (x : V), Conc k v x → v.cells = #[v] → ConcL k v.cells [x] := fun v x hc hv => by
    rw [hv]
    refine ⟨by simp, fun j v' x' h1 h2 => ?_⟩
    cases j with
    | zero => simp at h1 h2; subst h1; subst h2; exact hc
    | succ j => simp at h2
  cases hx <;> simp only [cellsV, Option.some.injEq, reduceCtorEq] at h
  case agg cs xs' hl hc => subst h; exact ⟨hl, hc⟩
  all_goals
    subst h
    refine one _ _ ?_ rfl
    constructor <;> assumption

theorem ofVal_conc (k : K) (v : Value) : Conc k v (ofVal v) := by
  unfold ofVal
  split <;> first | exact .int _ _ | exact .bool _ | exact .str _ | exact .nilp | exact .nils | exact .nilm | exact .niln | exact .junk _

theorem zeroT_spec {P : Program} {t : TypeId} {z : List V} (h : zeroT P t = some z) : ∃ i v, P.info? t = some i ∧ i.zero = some v ∧ z = v.cells.toList.map ofVal := by
  unfold zeroT at h
  simp only [Option.bind_eq_some_iff, Option.map_eq_some_iff] at h
  obtain ⟨i, hi, v, hv, rfl⟩ := h
  exact ⟨i, v, hi, hv, rfl⟩

theorem zero_conc {k : K} (cs : Array Value) : ConcL k cs (cs.toList.map ofVal) :=
  ⟨by simp, fun j v x h1 h2 => by
    simp only [List.getElem?_map, Array.getElem?_toList, h1, Option.map_some, Option.some.injEq] at h2
    subst h2
    exact ofVal_conc k v⟩

theorem splice_get {cells xs : List V} {o j : Nat} (ho : o + xs.length ≤ cells.length) : (splice cells o xs)[j]? = if o ≤ j ∧ j < o + xs.length then xs[j - o]? else cells[j]? := by
  unfold splice
  by_cases h1 : j < o
  · rw [List.getElem?_append_left (by simp; omega), List.getElem?_take_of_lt h1, if_neg (by omega)]
  · rw [List.getElem?_append_right (by simp; omega)]
    have ht : (cells.take o).length = o := by simp; omega
    rw [ht]
    by_cases h2 : j < o + xs.length
    · rw [List.getElem?_append_left (by omega), if_pos (by omega)]
    · rw [List.getElem?_append_right (by omega), List.getElem?_drop, if_neg (by omega)]
      congr 1
      omega
theorem splice_len {cells xs : List V} {o : Nat} (ho : o + xs.length ≤ cells.length) : (splice cells o xs).length = cells.length := by
  simp [splice]; omega

theorem foldl_set (xs : List Value) : ∀ (cs : Array Value) (o s : Nat), ((xs.zipIdx s).foldl (fun cs (c, j) => cs.setIfInBounds (o + j) c) cs).size = cs.size ∧
    ∀ (j : Nat), ((xs.zipIdx s).foldl (fun cs (c, j) => cs.setIfInBounds (o + j) c) cs)[j]? = if o + s ≤ j ∧ j < o + s + xs.length ∧ j < cs.size then xs[j - (o + s)]? else cs[j]? := by
  induction xs with
  | nil => intro cs o s; simp; intro j h1 h2 h3; omega
  | cons x xs ih =>
    intro cs o s
    simp only [List.zipIdx_cons, List.foldl_cons]
    obtain ⟨h1, h2⟩ := ih (cs.setIfInBounds (o + s) x) o (s + 1)
    refine ⟨by rw [h1]; simp, fun j => ?_⟩
    rw [h2 j]
    simp only [Array.size_setIfInBounds, List.length_cons]
    by_cases c1 : o + (s + 1) ≤ j ∧ j < o + (s + 1) + xs.length ∧ j < cs.size
    · rw [if_pos c1, if_pos (by omega)]
      have : j - (o + s) = j - (o + (s + 1)) + 1 := by omega
      rw [this, List.getElem?_cons_succ]
    · rw [if_neg c1]
      by_cases c2 : j = o + s
      · subst c2
        by_cases c3 : o + s < cs.size
        · rw [if_pos (by omega)]; simp [c3]
        · rw [if_neg (by omega)]; simp [c3]
      · rw [if_neg (by omega), Array.getElem?_setIfInBounds_ne (by omega)]

theorem fill_sound {k : K} (place : Nat → Option (Nat × Nat)) : ∀ (ps : List (Nat × Value)) (qs : List (Nat × V)) (cs : Array Value) (xs ys : List V), ConcL k cs xs →
    ps.length = qs.length → (∀ (j : Nat) p q, ps[j]? = some p → qs[j]? = some q → p.1 = q.1 ∧ Conc k p.2 q.2) → fillV place xs qs = some ys → ∃ ds, Instr.fill place cs ps = some ds ∧ ConcL k ds ys
  | [], qs, cs, xs, ys, hc, hl, _, h => by
    obtain rfl : qs = [] := List.eq_nil_of_length_eq_zero (by simpa using hl.symm)
    simp only [fillV, Option.some.injEq] at h
    subst h
    exact ⟨cs, rfl, hc⟩
  | p :: ps, qs, cs, xs, ys, hc, hl, hpq, h => by
    cases qs with
    | nil => simp at hl
    | cons q qs =>
      obtain ⟨i, v⟩ := p
      obtain ⟨i', x⟩ := q
      obtain ⟨e1, e2⟩ := hpq 0 (i, v) (i', x) (by simp) (by simp)
      simp only at e1 e2
      subst e1
      simp only [fillV] at h
      split at h
      · rename_i off size zs hp hz
        split at h
        · rename_i hcond
          have hv := cellsV_sound e2 hz
          have hsz : v.cells.size = zs.length := hv.1.symm
          have hcs : xs.length = cs.size := hc.1
          obtain ⟨f1, f2⟩ := foldl_set v.cells.toList cs off 0
          have ih := fill_sound place ps qs (v.cells.zipIdx.foldl (fun cs (c, j) => cs.setIfInBounds (off + j) c) cs) (splice xs off zs) ys ?_ (by simpa using hl)
            (fun j p q a b => hpq (j + 1) p q (by simpa using a) (by simpa using b)) h
          · obtain ⟨ds, hd, hcd⟩ := ih
            refine ⟨ds, ?_, hcd⟩
            simp only [Instr.fill, hp]
            rw [if_neg (by simp; omega)]
            exact hd
          · rw [← Array.foldl_toList]
            have hzi : v.cells.zipIdx.toList = v.cells.toList.zipIdx 0 := by simp
            rw [hzi]
            refine ⟨by rw [f1, splice_len (by omega)]; exact hcs, fun j u y a b => ?_⟩
            rw [f2 j] at a
            rw [splice_get (by omega)] at b
            by_cases c1 : off ≤ j ∧ j < off + zs.length
            · rw [if_pos c1] at b
              rw [if_pos (by simp; omega)] at a
              simp only [Nat.add_zero, Array.getElem?_toList] at a
              exact hv.2 _ u y a b
            · rw [if_neg c1] at b
              rw [if_neg (by simp; omega)] at a
              exact hc.2 j u y a b
        · cases h
      · cases h

theorem buildOk_places {P : Program} {t : TypeId} (h : buildOk P t = true) :
    (∃ fs, P.underlying t = some (.struct fs) ∧ (∀ f ∈ fs.toList, (P.info? f.type).isSome = true) ∧ placeT P t = fun i => (fs[i]?).map fun f => (f.offset, P.cellsOf f.type)) ∨
    (∃ n e i, P.underlying t = some (.array n e) ∧ P.info? e = some i ∧ placeT P t = fun j => some (j * i.size, i.size)) := by
  unfold buildOk at h
  unfold placeT
  cases hu : P.underlying t with
  | none => simp [hu] at h
  | some d =>
    rw [hu] at h
    cases d <;> simp only [Bool.false_eq_true] at h
    case struct fs =>
      refine .inl ⟨fs, rfl, fun f hf => ?_, by simp [h]⟩
      rw [Array.all_eq_true_iff_forall_mem] at h
      exact h f (by simpa using hf)
    case array n e =>
      obtain ⟨i, hi⟩ := Option.isSome_iff_exists.1 h
      exact .inr ⟨n, e, i, rfl, hi, by simp [hi, Program.cellsOf]⟩

theorem run_mapM_sizes {P : Program} (w : World) : ∀ (l : List Field), (∀ f ∈ l, (P.info? f.type).isSome = true) →
    (l.mapM (m := Sem) fun f => do pure (f.offset, ← sizeOf f.type)).run P w = .ok (l.map fun f => (f.offset, P.cellsOf f.type)) w
  | [], _ => rfl
  | f :: l, h => by
    obtain ⟨i, hi⟩ := Option.isSome_iff_exists.1 (h f (by simp))
    have ih := run_mapM_sizes w l (fun g hg => h g (by simp [hg]))
    simp only [List.mapM_cons, Sem.run_bind, run_sizeOf' hi, Result.andThen_ok, Sem.run_pure, ih, List.map_cons, Program.cellsOf, hi, Option.map_some, Option.getD_some]

theorem run_zero {P : Program} {w : World} {t : TypeId} {i : TypeInfo} {v : Value} (h : P.info? t = some i) (hz : i.zero = some v) : (zeroValue t).run P w = .ok v w := by
  simp [zeroValue, typeInfo, h, hz]

theorem buildV_sound {P : Program} {k : K} {w : World} {t : TypeId} {ps : Array (Nat × Value)} {qs : List (Nat × V)} {z : V} (hl : ps.size = qs.length)
    (hpq : ∀ (j : Nat) p q, ps[j]? = some p → qs[j]? = some q → p.1 = q.1 ∧ Conc k p.2 q.2) (h : buildV P t qs = some z) : ∃ c, (Instr.build t ps).run P w = .ok c w ∧ Conc k c z := by
  unfold buildV at h
  split at h
  · rename_i hok
    simp only [Option.bind_eq_some_iff, Option.map_eq_some_iff] at h
    obtain ⟨zs, hz, ys, hy, rfl⟩ := h
    obtain ⟨i, v, hi, hv, rfl⟩ := zeroT_spec hz
    obtain ⟨ds, hd, hcd⟩ := fill_sound (k := k) (placeT P t) ps.toList qs v.cells _ ys (zero_conc v.cells) (by simpa using hl) (fun j p q a b => hpq j p q (by simpa using a) b) hy
    refine ⟨.agg ds, ?_, .agg _ _ hcd.1 hcd.2⟩
    rcases buildOk_places hok with ⟨fs, hu, hfs, hpl⟩ | ⟨n, e, i', hu, hi', hpl⟩
    · have hm := run_mapM_sizes (P := P) w fs.toList hfs
      have hm' : (fs.mapM (m := Sem) fun f => do pure (f.offset, ← sizeOf f.type)).run P w = .ok ((fs.toList.map fun f => (f.offset, P.cellsOf f.type)).toArray) w := by
        rw [Array.mapM_eq_mapM_toList, Sem.run_map, hm]
        rfl
      have hpl' : (fun i => ((fs.toList.map fun f => (f.offset, P.cellsOf f.type)).toArray)[i]?) = placeT P t := by
        rw [hpl]
        funext i
        simp
      simp only [Instr.build, Sem.run_bind, run_zero hi hv, Result.andThen_ok, run_underlying hu, hm', hpl', hd, Sem.run_pure]
    · simp only [Instr.build, Sem.run_bind, run_zero hi hv, Result.andThen_ok, run_underlying hu, run_sizeOf' hi', ← hpl, hd, Sem.run_pure]
  · cases h

end Go.Av
