/-
  Abstract values: make, store, append, copy.
-/
import Derived.Test.YtgjlmmjdofceiaaAv8
namespace Go.Av
open Go.RowKit

theorem makeLens_sound {k : K} {v u : Value} {x y : V} {l c : Nat} (hx : Conc k v x) (hy : Conc k u y) (h : makeLens x y = some (l, c)) :
    ∃ ki kj i j, v = .int ki i ∧ u = .int kj j ∧ 0 ≤ i ∧ i ≤ j ∧ j ≤ 281474976710656 ∧ i.toNat = l ∧ j.toNat = c := by
  unfold makeLens at h
  split at h
  · cases hx; cases hy
    split at h
    · rename_i hc
      cases h
      exact ⟨_, _, _, _, rfl, rfl, hc.1, hc.2.1, hc.2.2, rfl, rfl⟩
    · cases h
  · cases h

/-- The bytes of a slice type's element. -/
def bytesT (P : Program) (t : TypeId) : Nat :=
  match P.underlying t with
  | some (.slice e) => ((P.info? e).map (·.bytes)).getD 0
  | _ => 0
theorem bytesT_spec {P : Program} {t e : TypeId} {i : TypeInfo} (hu : P.underlying t = some (.slice e)) (hi : P.info? e = some i) : bytesT P t = i.bytes := by simp [bytesT, hu, hi]

theorem makeSlice_own {P : Program} {k : K} {H : Hp} {w : World} (hr : Rel k H w) {t : TypeId} {v u : Value} {x y : V} (hx : Conc k v x) (hy : Conc k u y) {l c : Nat} (hlc : makeLens x y = some (l, c)) (hb : bytesT P t * c ≤ 281474976710656)
    {sz : Nat} {es : List (List V)} (hz : zeroEs P t c = some (sz, es)) {Q : V → Hp → Prop} (h : ∀ b, H b = none → Q (.osl b 0 l sz (decide (l = c))) (upd H b (some (.arr sz (es.take l))))) :
    ∃ r w', (Instr.makeSlice t v u).run P w = .ok r w' ∧ OpPost k H w Q r w' := by
  obtain ⟨e, ti, z, hu, hi, hv, rfl, hvs, rfl⟩ := zeroEs_spec hz
  obtain ⟨ki, kj, i, j, rfl, rfl, h0, h1, h2, rfl, rfl⟩ := makeLens_sound hx hy hlc
  rw [bytesT_spec hu hi] at hb
  have hL := zeros_laid (k := k) (z := z.cells) (n := j.toNat) hvs
  have hL' : Laid k ((Array.range (j.toNat * ti.size)).map (z.cells[· % z.cells.size]!)) ti.size ((List.replicate j.toNat (z.cells.toList.map ofVal)).take i.toNat) := by
    refine ⟨?_, fun e he => hL.2.1 e (List.mem_of_mem_take he), fun a e b x ha hb => ?_⟩
    · refine Nat.le_trans (Nat.mul_le_mul_right _ ?_) hL.1
      simp; omega
    · rw [List.getElem?_take] at ha
      split at ha
      · exact hL.2.2 a e b x ha hb
      · cases ha
  obtain ⟨g1, g2, g3⟩ := alloc_arr (e := e) hr hL'
  have hbj : (ti.bytes : Int) * j ≤ 281474976710656 := by
    have : ((ti.bytes * j.toNat : Nat) : Int) ≤ 281474976710656 := by omega
    rw [Int.natCast_mul, Int.toNat_of_nonneg (by omega)] at this
    exact this
  refine ⟨_, _, run_makeSlice hu hi hv h0 h1 h2 hbj, _, _, _, h _ hr.fresh, g1, g2, ?_, Fr.alloc_own _ _⟩
  have hsize : (0 + j.toNat) * ti.size ≤ ((Array.range (j.toNat * ti.size)).map (z.cells[· % z.cells.size]!)).size := by
    rw [Nat.zero_add, Array.size_map, Array.size_range]; exact Nat.le_refl _
  have := Conc.osl w.heap.size 0 i.toNat ti.size j.toNat _ (decide (i.toNat = j.toNat)) g3 (by omega) hsize (fun hf => (of_decide_eq_true hf).symm)
  rw [Nat.zero_mul] at this
  exact this

/-- 'makeSlice', by value. -/
theorem makeSlice_val {P : Program} {k : K} {H : Hp} {w : World} (hr : Rel k H w) {t : TypeId} {v u : Value} {x y : V} (hx : Conc k v x) (hy : Conc k u y) {l c : Nat} (hlc : makeLens x y = some (l, c)) (hb : bytesT P t * c ≤ 281474976710656)
    {sz : Nat} {es : List (List V)} (hz : zeroEs P t c = some (sz, es)) {Q : V → Hp → Prop} (h : Q (.sl sz (es.take l) (decide (l = c))) H) :
    ∃ r w', (Instr.makeSlice t v u).run P w = .ok r w' ∧ OpPost k H w Q r w' := by
  obtain ⟨e, ti, z, hu, hi, hv, rfl, hvs, rfl⟩ := zeroEs_spec hz
  obtain ⟨ki, kj, i, j, rfl, rfl, h0, h1, h2, rfl, rfl⟩ := makeLens_sound hx hy hlc
  rw [bytesT_spec hu hi] at hb
  have hL := zeros_laid (k := k) (z := z.cells) (n := j.toNat) hvs
  have hL' : Laid k ((Array.range (j.toNat * ti.size)).map (z.cells[· % z.cells.size]!)) ti.size ((List.replicate j.toNat (z.cells.toList.map ofVal)).take i.toNat) := by
    refine ⟨?_, fun e he => hL.2.1 e (List.mem_of_mem_take he), fun a e b x ha hb => ?_⟩
    · refine Nat.le_trans (Nat.mul_le_mul_right _ ?_) hL.1
      simp; omega
    · rw [List.getElem?_take] at ha
      split at ha
      · exact hL.2.2 a e b x ha hb
      · cases ha
  obtain ⟨g1, g2, g3⟩ := alloc_val hr ((Array.range (j.toNat * ti.size)).map (z.cells[· % z.cells.size]!)) e (0, 0)
  have hbj : (ti.bytes : Int) * j ≤ 281474976710656 := by
    have : ((ti.bytes * j.toNat : Nat) : Int) ≤ 281474976710656 := by omega
    rw [Int.natCast_mul, Int.toNat_of_nonneg (by omega)] at this
    exact this
  exact ⟨_, _, run_makeSlice hu hi hv h0 h1 h2 hbj, _, _, _, h, g1, g2, Conc.of_laid (hL'.mono g1) (by simp; omega) (by omega) (fun hf => (of_decide_eq_true hf).symm) g3, Fr.alloc_plain _ _ _⟩

/-! ### store -/
def storeV (P : Program) (H : Hp) (t : TypeId) (p x : V) : Option Hp :=
  match tyT P t, cellsV x with
  | some (_, n), some xs => if xs.length = n ∧ xs.all one = true then
      match p with
      | .ptr b off => match H b with
        | some (.row cells) => if off + xs.length ≤ cells.length then some (upd H b (some (.row (splice cells off xs)))) else none
        | _ => none
      | .eptr b i off sz => match H b with
        | some (.arr sz' es) => if sz' = sz then (es[i]?).bind fun e => if off + xs.length ≤ e.length then some (upd H b (some (.arr sz' (es.set i (splice e off xs))))) else none else none
        | _ => none
      | _ => none
    else none
  | _, _ => none

theorem run_storeAt {P : Program} {w : World} {t : TypeId} {c : Bool} {n b o : Nat} {v : Value} {cur : Array Value} {e : TypeId} (ht : tyT P t = some (c, n)) (hn : v.cells.size = n) (hb : w.heap[b]? = some (.cells cur e (0, 0)))
    (hfit : o + v.cells.size ≤ cur.size) (h1 : ∀ u ∈ v.cells.toList, u.oneCell' = true) :
    (Instr.storeAt t (.pointer (some ⟨b, o, none⟩)) v).run P w = .ok () (w.setRow b (cur.toList.take o ++ v.cells.toList ++ cur.toList.drop (o + v.cells.toList.length)).toArray) := by
  have hs := (run_isAgg_ty ht w).2
  have hst := run_storeCells_at P b o e v.cells.toList 0 cur w hb (by simpa using hfit) h1
  simp only [Nat.add_zero] at hst
  subst hn
  simp only [Instr.storeAt, Instr.sureAddr, storeVar, Sem.run_bind, Sem.run_pure, Result.andThen_ok, hs, ne_eq, not_true_eq_false, ↓reduceIte]
  exact hst

theorem seg_get (cur : Array Value) (vs : List Value) (o j : Nat) (h : o + vs.length ≤ cur.size) :
    ((cur.toList.take o ++ vs ++ cur.toList.drop (o + vs.length)).toArray)[j]? = if o ≤ j ∧ j < o + vs.length then vs[j - o]? else cur[j]? := by
  rw [List.getElem?_toArray, List.append_assoc]
  by_cases h1 : j < o
  · rw [List.getElem?_append_left (by simp; omega), List.getElem?_take_of_lt h1, if_neg (by omega), Array.getElem?_toList]
  · rw [List.getElem?_append_right (by simp; omega)]
    have ht : (cur.toList.take o).length = o := by simp; omega
    rw [ht]
    by_cases h2 : j < o + vs.length
    · rw [List.getElem?_append_left (by omega), if_pos (by omega)]
    · rw [List.getElem?_append_right (by omega), List.getElem?_drop, if_neg (by omega), Array.getElem?_toList]
      congr 1
      omega
theorem seg_size (cur : Array Value) (vs : List Value) (o : Nat) (h : o + vs.length ≤ cur.size) : ((cur.toList.take o ++ vs ++ cur.toList.drop (o + vs.length)).toArray).size = cur.size := by
  simp; omega

theorem store_sound {P : Program} {k : K} {H H' : Hp} {w : World} (hr : Rel k H w) {t : TypeId} {v u : Value} {p x : V} (hp : Conc k v p) (hx : Conc k u x) (h : storeV P H t p x = some H') :
    ∃ w', (Instr.storeAt t v u).run P w = .ok () w' ∧ Rel k H' w' ∧ Fr H w H' w' := by
  unfold storeV at h
  split at h
  · rename_i c n xs ht hxs
    split at h
    · rename_i hcond
      have hc := cellsV_sound hx hxs
      have hsz : u.cells.size = xs.length := hc.1.symm
      have h1 := ones_sound hc hcond.2
      split at h
      · rename_i b off
        split at h
        · rename_i cells hb
          split at h
          · rename_i hfit
            cases h
            cases hp
            obtain ⟨cs, e, g1, g2⟩ := hr.own _ _ hb
            have hcs : cells.length = cs.size := g2.1
            have hf : off + u.cells.toList.length ≤ cs.size := by simp; omega
            refine ⟨_, run_storeAt ht (by omega) g1 (by omega) h1, hr.setRow g1 (seg_size _ _ _ hf) hb ⟨_, e, setRow_heap w b cs _ e _ g1, ?_, fun j v' y a b => ?_⟩⟩
            · rw [seg_size _ _ _ hf, splice_len (by omega)]; exact hcs
            · rw [seg_get _ _ _ _ hf] at a
              rw [splice_get (by omega)] at b
              by_cases c1 : off ≤ j ∧ j < off + xs.length
              · rw [if_pos c1] at b
                rw [if_pos (by simp; omega), Array.getElem?_toList] at a
                exact hc.2 _ v' y a b
              · rw [if_neg c1] at b
                rw [if_neg (by simp; omega)] at a
                exact g2.2 j v' y a b
          · cases h
        · cases h
      · rename_i b i off sz
        split at h
        · rename_i sz' es hb
          split at h
          · rename_i hse
            subst hse
            simp only [Option.bind_eq_some_iff] at h
            obtain ⟨el, hel, h⟩ := h
            split at h
            · rename_i hfit
              cases h
              cases hp
              obtain ⟨cs, e, g1, g2, g3, g4⟩ := hr.own _ _ hb
              have hel' : el.length = sz' := g3 el (List.mem_of_getElem? hel)
              have hi : i < es.length := (List.getElem?_eq_some_iff.1 hel).1
              have hfl : i * sz' + sz' ≤ cs.size := by
                have : (i + 1) * sz' ≤ es.length * sz' := Nat.mul_le_mul_right _ hi
                rw [Nat.succ_mul] at this
                omega
              have hf : i * sz' + off + u.cells.toList.length ≤ cs.size := by simp; omega
              refine ⟨_, run_storeAt ht (by omega) g1 (by simpa using hf) h1, hr.setRow g1 (seg_size _ _ _ hf) hb ⟨_, e, setRow_heap w b cs _ e _ g1, ?_, fun a ha => ?_, fun i' e' j y a b => ?_⟩⟩
              · rw [seg_size _ _ _ hf]; simpa using g2
              · rcases List.mem_or_eq_of_mem_set ha with h' | rfl
                · exact g3 a h'
                · rw [splice_len (by omega)]; exact hel'
              · rw [seg_get _ _ _ _ hf]
                rw [List.getElem?_set] at a
                by_cases c0 : i = i'
                · subst c0
                  rw [if_pos rfl, if_pos hi] at a
                  cases a
                  rw [splice_get (by omega)] at b
                  by_cases c1 : off ≤ j ∧ j < off + xs.length
                  · rw [if_pos c1] at b
                    rw [if_pos (by simp; omega), Array.getElem?_toList]
                    have hlt : j - off < u.cells.size := by omega
                    have e3 : u.cells[j - off]? = some u.cells[j - off] := by simp [hlt]
                    refine ⟨u.cells[j - off], ?_, hc.2 _ _ y e3 b⟩
                    rw [← e3]
                    congr 1
                    omega
                  · rw [if_neg c1] at b
                    rw [if_neg (by simp; omega)]
                    exact g4 i el j y hel b
                · rw [if_neg c0] at a
                  have hj : j < sz' := by rw [← g3 e' (List.mem_of_getElem? a)]; exact (List.getElem?_eq_some_iff.1 b).1
                  rw [if_neg ?_]
                  · exact g4 i' e' j y a b
                  · simp only [Array.length_toList]
                    rintro ⟨q1, q2⟩
                    have : i' * sz' + j = i * sz' + (i' * sz' + j - i * sz') := by omega
                    exact c0 (flat_inj hj (by omega) this).1.symm
            · cases h
          · cases h
        · cases h
      · cases h
    · cases h
  · cases h

/-! ### the elements of a slice, out of memory -/
theorem view_cells {k : K} {H : Hp} {w : World} (hr : Rel k H w) {v : Value} {x : V} (hc : Conc k v x) {sz : Nat} (hs : 0 < sz) {es : List (List V)} (h : view H sz x = some es) :
    ∃ a c, v = .slice a es.length c ∧ es.length ≤ c ∧ (∀ e ∈ es, e.length = sz) ∧ ∃ news : List Value, news.length = es.length * sz ∧ (∀ (j : Nat) u, news[j]? = some u → ∃ ad, a = some ad ∧ w.cell? (ad.add j) = some u) ∧
      (a = none → es = []) ∧ ∀ (i : Nat) e (j : Nat) y, es[i]? = some e → e[j]? = some y → ∃ u, news[i * sz + j]? = some u ∧ Conc k u y := by
  cases hc <;> try (simp [view] at h; done)
  case nils =>
    simp only [view, Option.some.injEq] at h
    subst h
    exact ⟨none, 0, rfl, Nat.le_refl _, by simp, [], by simp, by simp, fun _ => rfl, by simp⟩
  case slnil sz' full =>
    simp only [view] at h
    split at h
    · cases h
      exact ⟨none, 0, rfl, Nat.le_refl _, by simp, [], by simp, by simp, fun _ => rfl, by simp⟩
    · cases h
  case sl b off cap sz' es' full vs hszs hcap hf hM hcv =>
    simp only [view] at h
    split at h
    · rename_i hse
      cases h
      subst hse
      refine ⟨some ⟨b, off, none⟩, cap, rfl, hcap, hszs, (List.range (es.length * sz')).map fun m => vs (m / sz') (m % sz'), by simp, fun j u hj => ⟨_, rfl, ?_⟩, (by simp), fun i e j y hi hj => ?_⟩
      · simp only [List.getElem?_map, Option.map_eq_some_iff] at hj
        obtain ⟨m, hm, rfl⟩ := hj
        obtain ⟨hlt, rfl⟩ := List.getElem?_eq_some_iff.1 hm
        simp only [List.length_range] at hlt
        simp only [List.getElem_range, addr_add]
        have e1 : j / sz' < es.length := Nat.div_lt_of_lt_mul (by rw [Nat.mul_comm]; exact hlt)
        have := (hr.imm _ _ _ (hM (j / sz') (j % sz') e1 (Nat.mod_lt _ hs))).1
        rw [← this]
        congr 2
        have := Nat.div_add_mod j sz'
        rw [Nat.mul_comm] at this
        omega
      · have hi' : i < es.length := (List.getElem?_eq_some_iff.1 hi).1
        have hj' : j < sz' := by rw [← hszs e (List.mem_of_getElem? hi)]; exact (List.getElem?_eq_some_iff.1 hj).1
        refine ⟨vs i j, ?_, hcv i e j y hi hj⟩
        have hlt := flat_lt hi' hj'
        have h1 : (i * sz' + j) / sz' = i := by rw [Nat.add_comm, Nat.add_mul_div_right _ _ hs, Nat.div_eq_of_lt hj', Nat.zero_add]
        have h2 : (i * sz' + j) % sz' = j := by rw [Nat.add_comm, Nat.add_mul_mod_self_right, Nat.mod_eq_of_lt hj']
        simp [hlt, h1, h2]
    · cases h
  case osl b i0 n sz' cap c full hR hcap hcc hf =>
    simp only [view] at h
    split at h
    · rename_i sz'' es' hb
      split at h
      · rename_i hcond
        obtain ⟨rfl, rfl, hle⟩ := hcond
        cases h
        obtain ⟨cs, e, g1, g2, g3, g4⟩ := hr.own _ _ hb
        have hlen : ((es'.drop i0).take n).length = n := by simp; omega
        have hfit : i0 * sz'' + n * sz'' ≤ cs.size := by
          rw [← Nat.add_mul]
          exact Nat.le_trans (Nat.mul_le_mul_right _ hle) g2
        refine ⟨some ⟨b, i0 * sz'', none⟩, cap, by rw [hlen], by rw [hlen]; exact hcap, fun e he => g3 e (List.mem_of_mem_drop (List.mem_of_mem_take he)), (cs.toList.drop (i0 * sz'')).take (n * sz''), by rw [hlen]; simp; omega, fun j u hj => ⟨_, rfl, ?_⟩, (by simp), fun i e j y hi hj => ?_⟩
        · rw [List.getElem?_take] at hj
          split at hj
          · rw [List.getElem?_drop, Array.getElem?_toList] at hj
            rw [addr_add, cell?_cells g1]; exact hj
          · cases hj
        · rw [List.getElem?_take] at hi
          split at hi
          · rename_i hin
            rw [List.getElem?_drop] at hi
            obtain ⟨u, hu, hcu⟩ := g4 _ e j y hi hj
            have hj' : j < sz'' := by rw [← g3 e (List.mem_of_getElem? hi)]; exact (List.getElem?_eq_some_iff.1 hj).1
            refine ⟨u, ?_, hcu⟩
            rw [List.getElem?_take_of_lt (flat_lt hin hj'), List.getElem?_drop, Array.getElem?_toList, ← hu, Nat.add_mul]
            congr 1
            omega
          · cases hi
      · cases h
    · cases h
  case rsl b off n sz' cap hcap =>
    simp only [view] at h
    split at h
    · rename_i cells hb
      split at h
      · rename_i hcond
        obtain ⟨rfl, hle⟩ := hcond
        cases h
        obtain ⟨cs, e, g1, g2⟩ := hr.own _ _ hb
        have hcs : cells.length = cs.size := g2.1
        refine ⟨some ⟨b, off, none⟩, cap, by rw [chunks_length], by rw [chunks_length]; exact hcap, chunks_mem_len (by simp; omega), (cs.toList.drop off).take (n * sz'), by rw [chunks_length]; simp; omega, fun j u hj => ⟨_, rfl, ?_⟩, by simp, fun i e j y hi hj => ?_⟩
        · rw [List.getElem?_take] at hj
          split at hj
          · rw [List.getElem?_drop, Array.getElem?_toList] at hj
            rw [addr_add, cell?_cells g1]; exact hj
          · cases hj
        · have hi' : i < n := by have := (List.getElem?_eq_some_iff.1 hi).1; rwa [chunks_length] at this
          rw [chunks_get _ _ _ _ hi'] at hi
          cases hi
          have hj' : j < sz' := by
            have := (List.getElem?_eq_some_iff.1 hj).1
            simp only [List.length_take] at this
            omega
          rw [List.getElem?_take_of_lt hj', List.getElem?_drop, List.getElem?_drop] at hj
          have hlt : off + (i * sz' + j) < cs.size := by have := flat_lt hi' hj'; omega
          have e1 : cs[off + (i * sz' + j)]? = some cs[off + (i * sz' + j)] := by simp [hlt]
          refine ⟨_, ?_, g2.2 _ _ y e1 hj⟩
          rw [List.getElem?_take_of_lt (flat_lt hi' hj'), List.getElem?_drop, Array.getElem?_toList]
          exact e1
      · cases h
    · cases h

def onesEs (es : List (List V)) : Bool := es.all (·.all one)

theorem news_one {k : K} {sz : Nat} (hs : 0 < sz) {es : List (List V)} {news : List Value} (hl : news.length = es.length * sz) (hsz : ∀ e ∈ es, e.length = sz)
    (hc : ∀ (i : Nat) e (j : Nat) y, es[i]? = some e → e[j]? = some y → ∃ u, news[i * sz + j]? = some u ∧ Conc k u y) (ho : onesEs es = true) : ∀ u ∈ news, u.oneCell' = true := by
  intro u hu
  obtain ⟨m, hm⟩ := List.mem_iff_getElem?.1 hu
  have hlt : m < es.length * sz := by rw [← hl]; exact (List.getElem?_eq_some_iff.1 hm).1
  have e1 : m / sz < es.length := Nat.div_lt_of_lt_mul (by rw [Nat.mul_comm]; exact hlt)
  have hel := List.getElem?_eq_getElem e1
  have hle := hsz _ (List.getElem_mem e1)
  have e2 : m % sz < (es[m / sz]).length := by rw [hle]; exact Nat.mod_lt _ hs
  obtain ⟨u', hu', hcu⟩ := hc _ _ _ _ hel (List.getElem?_eq_getElem e2)
  have : m / sz * sz + m % sz = m := by have := Nat.div_add_mod m sz; rw [Nat.mul_comm] at this; exact this
  rw [this, hm] at hu'
  cases hu'
  refine one_sound hcu ?_
  simp only [onesEs, List.all_eq_true] at ho
  exact ho _ (List.getElem_mem e1) _ (List.getElem_mem e2)

end Go.Av
