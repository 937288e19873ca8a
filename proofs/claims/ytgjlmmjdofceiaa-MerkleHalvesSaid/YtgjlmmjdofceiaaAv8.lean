/-
  Abstract values: operations that make or write memory.
-/
import Derived.Test.YtgjlmmjdofceiaaAv7
import Derived.Deep.AppendSrc
namespace Go.Av
open Go.RowKit

def one : V → Bool
  | .agg _ | .tup _ | .junk => false
  | _ => true

theorem one_sound {k : K} {v : Value} {x : V} (h : Conc k v x) (ho : one x = true) : v.oneCell' = true := by
  cases h <;> first | rfl | simp [one] at ho

theorem ones_sound {k : K} {vs : Array Value} {xs : List V} (h : ConcL k vs xs) (ho : xs.all one = true) : ∀ v ∈ vs.toList, v.oneCell' = true := by
  intro v hv
  obtain ⟨j, hj⟩ := List.mem_iff_getElem?.1 hv
  have hlt : j < xs.length := by rw [h.1]; have := (List.getElem?_eq_some_iff.1 hj).1; simpa using this
  refine one_sound (h.2 j v xs[j] (by simpa using hj) (List.getElem?_eq_getElem hlt)) ?_
  rw [List.all_eq_true] at ho
  exact ho _ (List.getElem_mem hlt)

theorem Rel.setRow {k : K} {H : Hp} {w : World} (h : Rel k H w) {b : Nat} {cs ds : Array Value} {e : TypeId} {fr : Nat × Nat} (hb : w.heap[b]? = some (.cells cs e fr)) (hs : ds.size = cs.size)
    {x0 x : Blk} (hn : H b = some x0) (hx : BlkOk k (w.setRow b ds) b x) : Rel k (upd H b (some x)) (w.setRow b ds) ∧ Fr H w (upd H b (some x)) (w.setRow b ds) := by
  refine ⟨⟨fun b' o v hm => ?_, fun b' c hr => ?_, fun b' y hy => ?_⟩, ⟨rfl, rfl, rfl, by simp [World.setRow], fun b' hb' hn' => ?_, fun b' hb' hn' => ?_⟩⟩
  · have hne : b' ≠ b := fun e' => by subst e'; have := (h.imm _ _ _ hm).2; rw [hn] at this; cases this
    exact ⟨by rw [cell?_of_heap (setRow_other w b b' ds hne)]; exact (h.imm _ _ _ hm).1, by rw [upd_ne _ _ _ hne]; exact (h.imm _ _ _ hm).2⟩
  · by_cases e' : b' = b
    · subst e'
      obtain ⟨cs', e1, fr', h1, h2⟩ := h.rows _ _ hr
      rw [hb] at h1; cases h1
      exact ⟨ds, e, fr, setRow_heap w b' cs ds e fr hb, hs.trans h2⟩
    · rw [setRow_other w b b' ds e']; exact h.rows b' c hr
  · by_cases e' : b' = b
    · subst e'; rw [upd_same] at hy; cases hy; exact hx
    · rw [upd_ne _ _ _ e'] at hy
      exact (h.own b' y hy).mono (K.le.refl _) (setRow_other w b b' ds e')
  · have hne : b' ≠ b := fun e' => by subst e'; rw [hn] at hn'; cases hn'
    exact setRow_other w b b' ds hne
  · have hne : b' ≠ b := fun e' => by subst e'; rw [hn] at hn'; cases hn'
    rw [upd_ne _ _ _ hne]; exact hn'

/-- What an operation has come to. -/
def OpPost (k : K) (H : Hp) (w : World) (Q : V → Hp → Prop) (v : Value) (w' : World) : Prop :=
  ∃ x H' k', Q x H' ∧ k.le k' ∧ Rel k' H' w' ∧ Conc k' v x ∧ Fr H w H' w'

/-! ### new blocks -/
theorem run_newVar {P : Program} {w : World} (t : TypeId) (v : Value) : (newVar t v).run P w = .ok ⟨w.heap.size, 0, none⟩ (w.alloc (.cells v.cells t)) := by
  simp [newVar, newRow]

theorem alloc_sound {P : Program} {k : K} {H : Hp} {w : World} (hr : Rel k H w) {t : TypeId} {z : List V} (hz : zeroT P t = some z) {Q : V → Hp → Prop} (h : ∀ b, H b = none → Q (.ptr b 0) (upd H b (some (.row z)))) :
    ∃ v w', (Instr.alloc t true (.tuple #[])).run P w = .ok v w' ∧ OpPost k H w Q v w' := by
  obtain ⟨i, v, hi, hv, rfl⟩ := zeroT_spec hz
  refine ⟨.pointer (some ⟨w.heap.size, 0, none⟩), w.alloc (.cells v.cells t), ?_, .ptr w.heap.size 0, _, k, h _ hr.fresh, K.le.refl _, ?_, .ptr _ _, Fr.alloc_own _ _⟩
  · simp [Instr.alloc, run_zero hi hv, run_newVar]
  · exact hr.alloc_own _ _ ⟨v.cells, t, heap_alloc_at w _, zero_conc v.cells⟩

theorem box_sound {P : Program} {k : K} {H : Hp} {w : World} (hr : Rel k H w) {t : TypeId} {u : Value} {x : V} {xs : List V} (hx : Conc k u x) (hc : cellsV x = some xs) {Q : V → Hp → Prop}
    (h : ∀ b, H b = none → Q (.ptr b 0) (upd H b (some (.row xs)))) : ∃ v w', (Instr.box t u).run P w = .ok v w' ∧ OpPost k H w Q v w' := by
  refine ⟨.pointer (some ⟨w.heap.size, 0, none⟩), w.alloc (.cells u.cells t), ?_, .ptr w.heap.size 0, _, k, h _ hr.fresh, K.le.refl _, ?_, .ptr _ _, Fr.alloc_own _ _⟩
  · simp [Instr.box, run_newVar]
  · exact hr.alloc_own _ _ ⟨u.cells, t, heap_alloc_at w _, cellsV_sound hx hc⟩

/-! ### elements laid out in a row -/
/-- The cells of a row hold the elements. -/
def Laid (k : K) (cs : Array Value) (sz : Nat) (es : List (List V)) : Prop :=
  es.length * sz ≤ cs.size ∧ (∀ e ∈ es, e.length = sz) ∧ ∀ (i : Nat) e (j : Nat) x, es[i]? = some e → e[j]? = some x → ∃ v, cs[i * sz + j]? = some v ∧ Conc k v x

def buildEs (sz : Nat) : List (List V) → List (Nat × V) → Option (List (List V))
  | es, [] => some es
  | es, (i, v) :: rest => match cellsV v with
    | some xs => if xs.length = sz ∧ i < es.length then buildEs sz (es.set i xs) rest else none
    | none => none

theorem flat_lt {i j n sz : Nat} (hi : i < n) (hj : j < sz) : i * sz + j < n * sz := by
  have : (i + 1) * sz ≤ n * sz := Nat.mul_le_mul_right _ hi
  rw [Nat.succ_mul] at this
  omega
theorem flat_inj {i i' j j' sz : Nat} (hj : j < sz) (hj' : j' < sz) (h : i * sz + j = i' * sz + j') : i = i' ∧ j = j' := by
  have h1 : (i * sz + j) / sz = i := by rw [Nat.add_comm, Nat.add_mul_div_right _ _ (by omega), Nat.div_eq_of_lt hj, Nat.zero_add]
  have h2 : (i' * sz + j') / sz = i' := by rw [Nat.add_comm, Nat.add_mul_div_right _ _ (by omega), Nat.div_eq_of_lt hj', Nat.zero_add]
  have h3 : i = i' := by rw [← h1, ← h2, h]
  subst h3
  exact ⟨rfl, by omega⟩

theorem buildEs_sound {k : K} {sz : Nat} : ∀ (ps : List (Nat × Value)) (qs : List (Nat × V)) (cs : Array Value) (es fs : List (List V)), Laid k cs sz es → ps.length = qs.length →
    (∀ (j : Nat) p q, ps[j]? = some p → qs[j]? = some q → p.1 = q.1 ∧ Conc k p.2 q.2) → buildEs sz es qs = some fs → ∃ ds, Instr.fill (fun i => some (i * sz, sz)) cs ps = some ds ∧ ds.size = cs.size ∧ Laid k ds sz fs
  | [], qs, cs, es, fs, hl, hlen, _, h => by
    obtain rfl : qs = [] := List.eq_nil_of_length_eq_zero (by simpa using hlen.symm)
    simp only [buildEs, Option.some.injEq] at h
    subst h
    exact ⟨cs, rfl, rfl, hl⟩
  | p :: ps, qs, cs, es, fs, hl, hlen, hpq, h => by
    cases qs with
    | nil => simp at hlen
    | cons q qs =>
      obtain ⟨i, v⟩ := p
      obtain ⟨i', x⟩ := q
      obtain ⟨e1, e2⟩ := hpq 0 (i, v) (i', x) (by simp) (by simp)
      simp only at e1 e2
      subst e1
      simp only [buildEs] at h
      split at h
      · rename_i xs hz
        split at h
        · rename_i hcond
          have hv := cellsV_sound e2 hz
          have hsz : v.cells.size = sz := by rw [← hv.1]; exact hcond.1
          obtain ⟨l1, l2, l3⟩ := hl
          have hfit : i * sz + sz ≤ cs.size := by
            have : (i + 1) * sz ≤ es.length * sz := Nat.mul_le_mul_right _ hcond.2
            rw [Nat.succ_mul] at this
            omega
          obtain ⟨f1, f2⟩ := foldl_set v.cells.toList cs (i * sz) 0
          have hzi : v.cells.zipIdx.toList = v.cells.toList.zipIdx 0 := by simp
          have ih := buildEs_sound ps qs (v.cells.zipIdx.foldl (fun cs (c, j) => cs.setIfInBounds (i * sz + j) c) cs) (es.set i xs) fs ?_ (by simpa using hlen)
            (fun j p q a b => hpq (j + 1) p q (by simpa using a) (by simpa using b)) h
          · obtain ⟨ds, hd, hds, hcd⟩ := ih
            refine ⟨ds, ?_, ?_, hcd⟩
            · simp only [Instr.fill]
              rw [if_neg (by simp; omega)]
              exact hd
            · rw [hds, ← Array.foldl_toList, hzi, f1]
          · rw [← Array.foldl_toList, hzi]
            refine ⟨by rw [f1]; simpa using l1, fun e he => ?_, fun a e j y ha hj => ?_⟩
            · rcases List.mem_or_eq_of_mem_set he with h' | rfl
              · exact l2 e h'
              · exact hcond.1
            · rw [List.getElem?_set] at ha
              by_cases c : i = a
              · subst c
                rw [if_pos rfl, if_pos hcond.2] at ha
                cases ha
                have hj' : j < xs.length := (List.getElem?_eq_some_iff.1 hj).1
                have hj2 : j < v.cells.size := by rw [← hv.1]; exact hj'
                have e3 : v.cells[j]? = some v.cells[j] := by simp [hj2]
                refine ⟨v.cells[j], ?_, hv.2 j _ y e3 hj⟩
                rw [f2, if_pos (by simp; omega)]
                simp only [Nat.add_zero, Nat.add_sub_cancel_left, Array.getElem?_toList]
                exact e3
              · rw [if_neg c] at ha
                obtain ⟨u, hu, hcu⟩ := l3 a e j y ha hj
                refine ⟨u, ?_, hcu⟩
                have hjs : j < sz := by rw [← l2 e (List.mem_of_getElem? ha)]; exact (List.getElem?_eq_some_iff.1 hj).1
                rw [f2, if_neg ?_]
                · exact hu
                · simp only [Nat.add_zero, Array.length_toList]
                  rintro ⟨g1, g2, _⟩
                  have : a * sz + j = i * sz + (a * sz + j - i * sz) := by omega
                  have := (flat_inj hjs (by omega) this).1
                  exact c this.symm
        · cases h
      · cases h

/-- The row of zeros that 'buildSlice' and 'make' begin with. -/
theorem zeros_laid {k : K} {z : Array Value} {n sz : Nat} (hz : z.size = sz) : Laid k ((Array.range (n * sz)).map (z[· % z.size]!)) sz (List.replicate n (z.toList.map ofVal)) := by
  refine ⟨by simp, fun e he => ?_, fun i e j x hi hj => ?_⟩
  · rw [List.eq_of_mem_replicate he]; simp [hz]
  · have hi' : i < n := by have := (List.getElem?_eq_some_iff.1 hi).1; simpa using this
    rw [List.getElem?_replicate, if_pos hi'] at hi
    cases hi
    have hj' : j < sz := by have := (List.getElem?_eq_some_iff.1 hj).1; simpa [hz] using this
    have hmod : (i * sz + j) % sz = j := by rw [Nat.add_comm, Nat.add_mul_mod_self_right, Nat.mod_eq_of_lt hj']
    refine ⟨z[j]!, ?_, ?_⟩
    · have := flat_lt hi' hj'
      simp [this, hz, hmod]
    · have e1 : z[j]! = z[j]'(by omega) := by simp [hz, hj']
      rw [e1]
      have e2 : (z.toList.map ofVal)[j]? = some (ofVal (z[j]'(by omega))) := by simp [hz, hj']
      rw [e2] at hj
      cases hj
      exact ofVal_conc _ _

theorem run_buildSlice {P : Program} {w : World} {t e : TypeId} {i : TypeInfo} {z : Value} {len : Nat} {ps : Array (Nat × Value)} {ds : Array Value} (ht : P.underlying t = some (.slice e)) (hi : P.info? e = some i) (hz : i.zero = some z)
    (h24 : len * i.size ≤ 16777216) (hd : Instr.fill (fun j => some (j * i.size, i.size)) ((Array.range (len * i.size)).map (z.cells[· % z.cells.size]!)) ps.toList = some ds) :
    (Instr.buildSlice t len ps).run P w = .ok (.slice (some ⟨w.heap.size, 0, none⟩) len len) (w.alloc (.cells ds e)) := by
  have h24' : ¬ (16777216 < len * i.size) := by omega
  by_cases h0 : len * i.size = 0
  · have hempty : (Array.range (len * i.size)).map (fun x : Nat => (#[] : Array Value)[x % (#[] : Array Value).size]!) = (Array.range (len * i.size)).map (z.cells[· % z.cells.size]!) := by
      rw [h0]; simp
    simp only [Instr.buildSlice, Sem.run_bind, run_underlying ht, Result.andThen_ok, run_sizeOf' hi]
    rw [if_neg (by omega), if_pos h0]
    simp only [Sem.run_pure, Result.andThen_ok, Sem.run_bind]
    rw [hempty, hd]
    simp [newRow]
  · simp only [Instr.buildSlice, Sem.run_bind, run_underlying ht, Result.andThen_ok, run_sizeOf' hi]
    rw [if_neg (by omega), if_neg h0]
    simp only [Sem.run_pure, Result.andThen_ok, Sem.run_bind, run_zero hi hz]
    rw [hd]
    simp [newRow]

/-- A new row by value. -/
theorem Conc.of_laid {k : K} {b len cap sz : Nat} {cs : Array Value} {es : List (List V)} {full : Bool} (h : Laid k cs sz es) (hl : es.length = len) (hc : len ≤ cap) (hf : full = true → cap = len)
    (hM : ∀ j v, cs[j]? = some v → k.M b j = some v) : Conc k (.slice (some ⟨b, 0, none⟩) len cap) (.sl sz es full) := by
  subst hl
  refine .sl b 0 cap sz es full (fun i j => cs.getD (i * sz + j) undef) h.2.1 hc hf (fun i j hi hj => ?_) (fun i e j x hi hj => ?_)
  · have hlt : i * sz + j < cs.size := Nat.lt_of_lt_of_le (flat_lt hi hj) h.1
    rw [Nat.zero_add]
    exact hM _ _ (by simp [hlt])
  · obtain ⟨v, hv, hcv⟩ := h.2.2 i e j x hi hj
    have hlt : i * sz + j < cs.size := (Array.getElem?_eq_some_iff.1 hv).1
    have : cs[i * sz + j]? = some (cs.getD (i * sz + j) undef) := by simp [hlt]
    rw [this] at hv
    cases hv
    exact hcv

theorem Laid.mono {k k' : K} (hk : k.le k') {cs : Array Value} {sz : Nat} {es : List (List V)} (h : Laid k cs sz es) : Laid k' cs sz es :=
  ⟨h.1, h.2.1, fun i e j x a b => let ⟨v, hv, hc⟩ := h.2.2 i e j x a b; ⟨v, hv, hc.mono hk⟩⟩

def zeroEs (P : Program) (t : TypeId) (len : Nat) : Option (Nat × List (List V)) :=
  match P.underlying t with
  | some (.slice e) => match P.info? e, zeroT P e with
    | some i, some z => if z.length = i.size then some (i.size, List.replicate len z) else none
    | _, _ => none
  | _ => none

theorem zeroEs_spec {P : Program} {t : TypeId} {len sz : Nat} {es : List (List V)} (h : zeroEs P t len = some (sz, es)) :
    ∃ e i v, P.underlying t = some (.slice e) ∧ P.info? e = some i ∧ i.zero = some v ∧ i.size = sz ∧ v.cells.size = sz ∧ es = List.replicate len (v.cells.toList.map ofVal) := by
  unfold zeroEs at h
  split at h
  · rename_i e hu
    split at h
    · rename_i i z hi hz
      split at h
      · rename_i hl
        cases h
        obtain ⟨i', v, hi', hv, rfl⟩ := zeroT_spec hz
        rw [hi] at hi'; cases hi'
        exact ⟨e, i, v, hu, hi, hv, rfl, by simpa using hl, rfl⟩
      · cases h
    · cases h
  · cases h

theorem alloc_val {k : K} {H : Hp} {w : World} (hr : Rel k H w) (cs : Array Value) (e : TypeId) (fr : Nat × Nat) :
    k.le (k.putM w.heap.size cs) ∧ Rel (k.putM w.heap.size cs) H (w.alloc (.cells cs e fr)) ∧ ∀ j v, cs[j]? = some v → (k.putM w.heap.size cs).M w.heap.size j = some v := by
  obtain ⟨h1, h2⟩ := (hr.alloc_plain (.cells cs e fr)).putM (heap_alloc_at w (.cells cs e fr)) hr.fresh
  exact ⟨h1, h2, fun j v hv => by simp [K.putM, hv]⟩

/-- 'buildSlice', by value. -/
theorem buildSlice_val {P : Program} {k : K} {H : Hp} {w : World} (hr : Rel k H w) {t : TypeId} {len : Nat} {ps : Array (Nat × Value)} {qs : List (Nat × V)} (hl : ps.size = qs.length)
    (hpq : ∀ (j : Nat) p q, ps[j]? = some p → qs[j]? = some q → p.1 = q.1 ∧ Conc k p.2 q.2) {sz : Nat} {zs es : List (List V)} (hz : zeroEs P t len = some (sz, zs)) (h24 : len * sz ≤ 16777216) (hb : buildEs sz zs qs = some es)
    {Q : V → Hp → Prop} (h : Q (.sl sz es true) H) : ∃ v w', (Instr.buildSlice t len ps).run P w = .ok v w' ∧ OpPost k H w Q v w' := by
  obtain ⟨e, i, v, hu, hi, hv, rfl, hvs, rfl⟩ := zeroEs_spec hz
  obtain ⟨ds, hd, hds, hL⟩ := buildEs_sound (k := k) ps.toList qs _ _ es (zeros_laid (k := k) (n := len) hvs) (by simpa using hl) (fun j p q a b => hpq j p q (by simpa using a) b) hb
  obtain ⟨g1, g2, g3⟩ := alloc_val hr ds e (0, 0)
  have hlen : ∀ (qs : List (Nat × V)) (zs es : List (List V)), buildEs i.size zs qs = some es → es.length = zs.length := by
    intro qs
    induction qs with
    | nil => intro zs es h; simp only [buildEs, Option.some.injEq] at h; rw [h]
    | cons q qs ih =>
      intro zs es h
      simp only [buildEs] at h
      split at h
      · split at h
        · have := ih _ _ h; simpa using this
        · cases h
      · cases h
  have hel : es.length = len := by rw [hlen _ _ _ hb]; simp
  exact ⟨_, _, run_buildSlice hu hi hv h24 hd, .sl i.size es true, H, _, h, g1, g2, Conc.of_laid (hL.mono g1) hel (Nat.le_refl _) (fun _ => rfl) g3, Fr.alloc_plain _ _ _⟩

/-- A new row that is owned, and its size written down. -/
theorem alloc_arr {k : K} {H : Hp} {w : World} (hr : Rel k H w) {cs : Array Value} {e : TypeId} {sz : Nat} {es : List (List V)} (hL : Laid k cs sz es) :
    k.le (k.putR w.heap.size cs.size) ∧ Rel (k.putR w.heap.size cs.size) (upd H w.heap.size (some (.arr sz es))) (w.alloc (.cells cs e)) ∧ (k.putR w.heap.size cs.size).R w.heap.size = some cs.size := by
  have h1 := hr.alloc_own (.cells cs e) (.arr sz es) ⟨cs, e, heap_alloc_at w _, hL.1, hL.2.1, hL.2.2⟩
  obtain ⟨h2, h3⟩ := h1.putR (heap_alloc_at w (.cells cs e))
  exact ⟨h2, h3, by simp [K.putR]⟩

/-- 'buildSlice', owned. -/
theorem buildSlice_own {P : Program} {k : K} {H : Hp} {w : World} (hr : Rel k H w) {t : TypeId} {len : Nat} {ps : Array (Nat × Value)} {qs : List (Nat × V)} (hl : ps.size = qs.length)
    (hpq : ∀ (j : Nat) p q, ps[j]? = some p → qs[j]? = some q → p.1 = q.1 ∧ Conc k p.2 q.2) {sz : Nat} {zs es : List (List V)} (hz : zeroEs P t len = some (sz, zs)) (h24 : len * sz ≤ 16777216) (hb : buildEs sz zs qs = some es)
    {Q : V → Hp → Prop} (h : ∀ b, H b = none → Q (.osl b 0 len sz true) (upd H b (some (.arr sz es)))) : ∃ v w', (Instr.buildSlice t len ps).run P w = .ok v w' ∧ OpPost k H w Q v w' := by
  obtain ⟨e, i, v, hu, hi, hv, rfl, hvs, rfl⟩ := zeroEs_spec hz
  obtain ⟨ds, hd, hds, hL⟩ := buildEs_sound (k := k) ps.toList qs _ _ es (zeros_laid (k := k) (n := len) hvs) (by simpa using hl) (fun j p q a b => hpq j p q (by simpa using a) b) hb
  obtain ⟨g1, g2, g3⟩ := alloc_arr (e := e) hr hL
  refine ⟨_, _, run_buildSlice hu hi hv h24 hd, _, _, _, h _ hr.fresh, g1, g2, ?_, Fr.alloc_own _ _⟩
  have := Conc.osl (k := k.putR w.heap.size ds.size) w.heap.size 0 len i.size len ds.size true g3 (Nat.le_refl _) (by rw [hds]; simp) (fun _ => rfl)
  simpa using this

def makeLens (l c : V) : Option (Nat × Nat) :=
  match l, c with
  | .int _ i, .int _ j => if 0 ≤ i ∧ i ≤ j ∧ j ≤ 281474976710656 then some (i.toNat, j.toNat) else none
  | _, _ => none

theorem run_makeSlice {P : Program} {w : World} {t e : TypeId} {ti : TypeInfo} {z : Value} {ki kj : IntKind} {i j : Int} (ht : P.underlying t = some (.slice e)) (hi : P.info? e = some ti) (hz : ti.zero = some z) (h0 : 0 ≤ i) (h1 : i ≤ j)
    (h2 : j ≤ 281474976710656) (hb : (ti.bytes : Int) * j ≤ 281474976710656) :
    (Instr.makeSlice t (.int ki i) (.int kj j)).run P w = .ok (.slice (some ⟨w.heap.size, 0, none⟩) i.toNat j.toNat) (w.alloc (.cells ((Array.range (j.toNat * ti.size)).map (z.cells[· % z.cells.size]!)) e)) := by
  have w1 : IntKind.i64.wrap i = i := IntWalk.i64_in i (by omega)
  have w2 : IntKind.i64.wrap j = j := IntWalk.i64_in j (by omega)
  have n1 : ¬ j < 0 := by omega
  have n2 : ¬ i < 0 := by omega
  have n3 : ¬ j < i := by omega
  have n4 : ¬ (281474976710656 < (ti.bytes : Int) * j) := by omega
  by_cases hn : j.toNat * ti.size = 0
  · have hempty : (Array.range (j.toNat * ti.size)).map (fun x : Nat => (#[] : Array Value)[x % (#[] : Array Value).size]!) = (Array.range (j.toNat * ti.size)).map (z.cells[· % z.cells.size]!) := by
      rw [hn]; simp
    simp only [Instr.makeSlice, Sem.run_bind, run_underlying ht, Result.andThen_ok, asInt, asIntOf, Sem.run_pure, typeInfo, run_program, hi, w1, w2]
    rw [if_neg (by simp [n1, n2, n3, n4])]
    simp only [Sem.run_bind, run_askRoom, Result.andThen_ok, run_sizeOf' hi, if_pos hn, Sem.run_pure, hempty]
    simp [newRow]
  · simp only [Instr.makeSlice, Sem.run_bind, run_underlying ht, Result.andThen_ok, asInt, asIntOf, Sem.run_pure, typeInfo, run_program, hi, w1, w2]
    rw [if_neg (by simp [n1, n2, n3, n4])]
    simp only [Sem.run_bind, run_askRoom, Result.andThen_ok, run_sizeOf' hi, if_neg hn, Sem.run_pure, run_zero hi hz]
    simp [newRow]

end Go.Av
