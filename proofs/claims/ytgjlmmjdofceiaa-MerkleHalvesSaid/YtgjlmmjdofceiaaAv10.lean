/-
  Abstract values: append and copy.
-/
import Derived.Test.YtgjlmmjdofceiaaAv9
set_option linter.unusedSimpArgs false
set_option linter.unusedVariables false
namespace Go.Av
open Go.RowKit

/-- Cells that hold elements, one behind the other. -/
def Lay (k : K) (news : List Value) (sz : Nat) (es : List (List V)) : Prop :=
  news.length = es.length * sz ∧ (∀ e ∈ es, e.length = sz) ∧ ∀ (i : Nat) e (j : Nat) y, es[i]? = some e → e[j]? = some y → ∃ u, news[i * sz + j]? = some u ∧ Conc k u y

theorem Lay.append {k : K} {a b : List Value} {sz : Nat} {es fs : List (List V)} (h : Lay k a sz es) (g : Lay k b sz fs) : Lay k (a ++ b) sz (es ++ fs) := by
  obtain ⟨h1, h2, h3⟩ := h
  obtain ⟨g1, g2, g3⟩ := g
  refine ⟨by simp [h1, g1, Nat.add_mul], fun e he => ?_, fun i e j y hi hj => ?_⟩
  · rcases List.mem_append.1 he with h' | h'
    · exact h2 e h'
    · exact g2 e h'
  · by_cases c : i < es.length
    · rw [List.getElem?_append_left c] at hi
      obtain ⟨u, hu, hc⟩ := h3 i e j y hi hj
      refine ⟨u, ?_, hc⟩
      rw [List.getElem?_append_left (List.getElem?_eq_some_iff.1 hu).1]
      exact hu
    · rw [List.getElem?_append_right (by omega)] at hi
      obtain ⟨u, hu, hc⟩ := g3 _ e j y hi hj
      refine ⟨u, ?_, hc⟩
      have e1 : i * sz + j = a.length + ((i - es.length) * sz + j) := by
        have : i * sz = es.length * sz + (i - es.length) * sz := by rw [← Nat.add_mul]; congr 1; omega
        rw [h1]; omega
      rw [e1, List.getElem?_append_right (by omega), Nat.add_sub_cancel_left]
      exact hu

theorem Lay.laid {k : K} {a : List Value} {sz : Nat} {es : List (List V)} (h : Lay k a sz es) (zs : Array Value) : Laid k (a.toArray ++ zs) sz es := by
  obtain ⟨h1, h2, h3⟩ := h
  refine ⟨by simp [h1], h2, fun i e j y hi hj => ?_⟩
  obtain ⟨u, hu, hc⟩ := h3 i e j y hi hj
  have hlt := (List.getElem?_eq_some_iff.1 hu).1
  refine ⟨u, ?_, hc⟩
  rw [Array.getElem?_append_left (by simpa using hlt), List.getElem?_toArray]
  exact hu

theorem Rel.drew {k : K} {H : Hp} {w : World} (h : Rel k H w) : Rel k H w.drew := h.heap rfl
theorem Fr.drew (H : Hp) (w : World) : Fr H w H w.drew := ⟨rfl, rfl, rfl, Nat.le_refl _, fun _ _ _ => rfl, fun _ _ h => h⟩

structure Dst (P : Program) (t : TypeId) (sz : Nat) where
  e : TypeId
  i : TypeInfo
  z : Value
  ht : P.underlying t = some (.slice e)
  hi : P.info? e = some i
  hz : i.zero = some z
  hsz : i.size = sz
  hzs : z.cells.size = sz
  hs : 0 < sz

/-- It grows: a new row. -/
theorem append_grow {P : Program} {k : K} {H : Hp} {w : World} (hr : Rel k H w) {t tx ty : TypeId} {sz : Nat} (D : Dst P t sz) {base : Option Addr} {n c : Nat} {olds : List Value} {es : List (List V)} (hlo : Lay k olds sz es) (hn : es.length = n)
    (hold : ∀ (j : Nat) u, olds[j]? = some u → ∃ ad, base = some ad ∧ w.cell? (ad.add j) = some u) (hbn : base = none → es = [])
    {x : Value} {m : Nat} {news : List Value} (hs : Src P sz tx x m news w) {fs : List (List V)} (hln : Lay k news sz fs) (hm : fs.length = m)
    (hg : c < n + m) (hb : (n + m) * bytesT P t ≤ 140737488355328) (h63 : n + m ≤ 140737488355328) {Q : V → Hp → Prop} (h : ∀ b, H b = none → Q (.osl b 0 (n + m) sz false) (upd H b (some (.arr sz (es ++ fs))))) :
    ∃ r w', (Builtin.append_ #[t, tx] ty #[.slice base n c, x]).run P w = .ok r w' ∧ OpPost k H w Q r w' := by
  obtain ⟨e, i, z, ht, hi, hz, rfl, hzs, hsp⟩ := D
  rw [bytesT_spec ht hi] at hb
  have hf : (Builtin.firstCells i.size n (.slice base n c)).run P w.drew = .ok olds.toArray w.drew := by
    cases base with
    | none =>
      have := hbn rfl
      subst this
      simp only [List.length_nil] at hn
      subst hn
      have : olds = [] := List.eq_nil_of_length_eq_zero (by rw [hlo.1]; simp)
      subst this
      exact run_firstCells_none w.drew i.size 0 0 c
    | some ad =>
      refine run_firstCells_some w.drew i.size n ad n c olds (by rw [hlo.1, hn]) (fun j u hj => ?_)
      obtain ⟨ad', e1, h1⟩ := hold j u hj
      cases e1
      simpa using h1
  have hr1 := run_append_grow_src (P := P) w t tx ty e i z ht hi hz base n c olds hf x m news hs hg (by omega) (growslice_fits hg hb)
  have hL : Laid k ((olds ++ news).toArray ++ Builtin.zeroCells z.cells (grownCap w (n + m) c e - (n + m))) i.size (es ++ fs) := (hlo.append hln).laid _
  obtain ⟨g1, g2, g3⟩ := alloc_arr (e := e) hr.drew hL
  have hge := grownCap_ge w (n + m) c e
  refine ⟨_, _, hr1, _, _, _, h w.drew.heap.size hr.drew.fresh, g1, g2, ?_, (Fr.drew H w).trans (Fr.alloc_own _ _)⟩
  have hsize : (0 + grownCap w (n + m) c e) * i.size ≤ ((olds ++ news).toArray ++ Builtin.zeroCells z.cells (grownCap w (n + m) c e - (n + m))).size := by
    rw [Nat.zero_add, Array.size_append, List.size_toArray, List.length_append, hlo.1, hln.1, hn, hm, size_zeroCells, hzs, ← Nat.add_mul, ← Nat.add_mul]
    exact Nat.mul_le_mul_right _ (by omega)
  have := Conc.osl (k := _) w.drew.heap.size 0 (n + m) i.size _ _ false g3 hge hsize (fun hf => by cases hf)
  rw [Nat.zero_mul] at this
  exact this

/-- There is room: an owned row, written behind its end. -/
theorem append_room {P : Program} {k : K} {H : Hp} {w : World} (hr : Rel k H w) {t tx ty : TypeId} {sz : Nat} (D : Dst P t sz) {b n c rs : Nat} {es : List (List V)} (hb : H b = some (.arr sz es)) (hn : n ≤ es.length) (hR : k.R b = some rs) (hc : (0 + c) * sz ≤ rs)
    {x : Value} {m : Nat} {news : List Value} (hs : Src P sz tx x m news w) {fs : List (List V)} (hln : Lay k news sz fs) (hm : fs.length = m)
    (hg : n + m ≤ c) {Q : V → Hp → Prop} (h : Q (.osl b 0 (n + m) sz false) (upd H b (some (.arr sz (es.take n ++ fs))))) :
    ∃ r w', (Builtin.append_ #[t, tx] ty #[.slice (some ⟨b, 0, none⟩) n c, x]).run P w = .ok r w' ∧ OpPost k H w Q r w' := by
  obtain ⟨e, i, z, ht, hi, hz, rfl, hzs, hsp⟩ := D
  obtain ⟨cs, e', g1, g2, g3, g4⟩ := hr.own _ _ hb
  obtain ⟨cs', e'', fr, q1, q2⟩ := hr.rows _ _ hR
  rw [g1] at q1
  cases q1
  rw [Nat.zero_add] at hc
  have hnews : news.length = m * i.size := by rw [hln.1, hm]
  have hfit : n * i.size + news.length ≤ cs.size := by
    rw [hnews, ← Nat.add_mul, q2]
    exact Nat.le_trans (Nat.mul_le_mul_right _ hg) hc
  have hst := run_storeCells_at P b (n * i.size) e' news 0 cs w g1 (by simpa using hfit) hs.one
  simp only [Nat.add_zero] at hst
  have hrun : (Builtin.append_ #[t, tx] ty #[.slice (some ⟨b, 0, none⟩) n c, x]).run P w = .ok (.slice (some ⟨b, 0, none⟩) (n + m) c) (w.setRow b (cs.toList.take (n * i.size) ++ news ++ cs.toList.drop (n * i.size + news.length)).toArray) := by
    rcases hs.kind with ⟨e2, hk⟩ | hk <;> simp [Builtin.append_, run_underlying ht, run_underlying hk, sizeOf, typeInfo, hi, hs.len, hg, hs.cells, addr_add, hst]
  obtain ⟨s1, s2⟩ := hr.setRow g1 (seg_size cs news _ hfit) hb (x := .arr i.size (es.take n ++ fs)) ⟨_, e', setRow_heap w b cs _ e' _ g1, by
      rw [seg_size _ _ _ hfit, List.length_append, List.length_take, Nat.min_eq_left hn, hm, q2]
      exact Nat.le_trans (Nat.mul_le_mul_right _ hg) hc, fun a ha => by
      rcases List.mem_append.1 ha with h' | h'
      · exact g3 a (List.mem_of_mem_take h')
      · exact hln.2.1 a h', fun a el j y ha hj => by
      rw [seg_get _ _ _ _ hfit]
      have hlt : (es.take n).length = n := by simp; omega
      by_cases c0 : a < n
      · rw [List.getElem?_append_left (by omega), List.getElem?_take_of_lt c0] at ha
        have hj' : j < i.size := by rw [← g3 el (List.mem_of_getElem? ha)]; exact (List.getElem?_eq_some_iff.1 hj).1
        have := flat_lt c0 hj'
        rw [if_neg (by omega)]
        exact g4 a el j y ha hj
      · rw [List.getElem?_append_right (by omega), hlt] at ha
        have ha' : a - n < m := by rw [← hm]; exact (List.getElem?_eq_some_iff.1 ha).1
        have hj' : j < i.size := by rw [← hln.2.1 el (List.mem_of_getElem? ha)]; exact (List.getElem?_eq_some_iff.1 hj).1
        have h1 := flat_lt ha' hj'
        have e1 : a * i.size = n * i.size + (a - n) * i.size := by rw [← Nat.add_mul]; congr 1; omega
        rw [if_pos (by omega)]
        obtain ⟨u, hu, hcu⟩ := hln.2.2 _ el j y ha hj
        refine ⟨u, ?_, hcu⟩
        rw [← hu]
        congr 1
        omega⟩
  refine ⟨_, _, hrun, _, _, _, h, K.le.refl _, s1, ?_, s2⟩
  have := Conc.osl (k := k) b 0 (n + m) i.size c rs false hR hg (by rw [Nat.zero_add]; exact hc) (fun hf => by cases hf)
  rw [Nat.zero_mul] at this
  exact this

/-- Nothing is appended: the slice itself. -/
theorem append_none {P : Program} {k : K} {H : Hp} {w : World} (hr : Rel k H w) {t tx ty : TypeId} {sz : Nat} (D : Dst P t sz) {base : Option Addr} {n c : Nat} {x : Value} (hs : Src P sz tx x 0 [] w) (hg : n ≤ c) {y : V} (hy : Conc k (.slice base n c) y)
    {Q : V → Hp → Prop} (h : Q y H) : ∃ r w', (Builtin.append_ #[t, tx] ty #[.slice base n c, x]).run P w = .ok r w' ∧ OpPost k H w Q r w' := by
  obtain ⟨e, i, z, ht, hi, hz, rfl, hzs, hsp⟩ := D
  refine ⟨.slice base n c, w, ?_, y, H, k, h, K.le.refl _, hr, hy, Fr.refl _ _⟩
  cases base <;> rcases hs.kind with ⟨e2, hk⟩ | hk <;> simp [Builtin.append_, run_underlying ht, run_underlying hk, sizeOf, typeInfo, hi, hs.len, hg, hs.cells, storeCells]

/-- The elements of what is appended. -/
def srcV (P : Program) (H : Hp) (sz : Nat) (tx : TypeId) (x : V) : Option (List (List V)) :=
  match P.underlying tx with
  | some (.slice _) => view H sz x
  | some .string => match x with
    | .str s => if sz = 1 then some (s.data.toList.map fun b => [.int .u8 (b.toNat : Int)]) else none
    | _ => none
  | _ => none

theorem srcV_sound {P : Program} {k : K} {H : Hp} {w : World} (hr : Rel k H w) {sz : Nat} (hsp : 0 < sz) {tx : TypeId} {v : Value} {x : V} (hx : Conc k v x) {fs : List (List V)} (h : srcV P H sz tx x = some fs) (ho : onesEs fs = true) :
    ∃ news, Src P sz tx v fs.length news w ∧ Lay k news sz fs := by
  unfold srcV at h
  split at h
  · rename_i e hu
    obtain ⟨a, c, rfl, hle, hsz, news, hl, hc, hn, hcc⟩ := view_cells hr hx hsp h
    have h1 := news_one hsp hl hsz hcc ho
    refine ⟨news, ?_, hl, hsz, hcc⟩
    cases a with
    | none =>
      have := hn rfl
      subst this
      have : news = [] := List.eq_nil_of_length_eq_zero (by rw [hl]; simp)
      subst this
      exact Src.ofNil w hu c
    | some ad =>
      refine Src.ofSlice w hu ad fs.length c news hl (fun j u hj => ?_) h1
      obtain ⟨ad', e1, h2⟩ := hc j u hj
      cases e1
      exact h2
  · rename_i hu
    split at h
    · split at h
      · rename_i s hs1
        cases h
        subst hs1
        cases hx
        refine ⟨byteCells s, ?_, ?_, ?_, fun i e j y hi hj => ?_⟩
        · have := Src.ofString (P := P) w hu s
          have e1 : (s.data.toList.map fun b => [V.int .u8 (b.toNat : Int)]).length = s.size := by rw [List.length_map, Array.length_toList]; rfl
          rw [e1]
          exact this
        · simp [byteCells]
        · intro e he
          obtain ⟨b, _, rfl⟩ := List.mem_map.1 he
          rfl
        · simp only [List.getElem?_map, Option.map_eq_some_iff] at hi
          obtain ⟨b, hb, rfl⟩ := hi
          cases j with
          | zero =>
            simp only [List.getElem?_cons_zero, Option.some.injEq] at hj
            subst hj
            refine ⟨.int .u8 b.toNat, ?_, .int _ _⟩
            simp only [byteCells, Nat.mul_one, Nat.add_zero, List.getElem?_map, hb, Option.map_some]
          | succ j => simp at hj
      · cases h
    · cases h
  · cases h

def dstT (P : Program) (t : TypeId) : Option Nat :=
  match P.underlying t with
  | some (.slice e) => match P.info? e with
    | some i => match i.zero with
      | some z => if z.cells.size = i.size ∧ 0 < i.size then some i.size else none
      | none => none
    | none => none
  | _ => none
theorem dstT_spec {P : Program} {t : TypeId} {sz : Nat} (h : dstT P t = some sz) : Nonempty (Dst P t sz) := by
  unfold dstT at h
  split at h
  · rename_i e hu
    split at h
    · rename_i i hi
      split at h
      · rename_i z hz
        split at h
        · rename_i hc
          cases h
          exact ⟨⟨e, i, z, hu, hi, hz, rfl, hc.1, hc.2⟩⟩
        · cases h
      · cases h
    · cases h
  · cases h

/-- **append.** -/
def wpAppend0 (P : Program) (H : Hp) (t tx : TypeId) (d x : V) (Q : V → Hp → Prop) : Prop :=
  ∃ sz fs, dstT P t = some sz ∧ srcV P H sz tx x = some fs ∧ onesEs fs = true ∧
    match d with
    | .nils => fs.length * bytesT P t ≤ 140737488355328 ∧ fs.length ≤ 140737488355328 ∧ (fs = [] → Q .nils H) ∧ (fs ≠ [] → ∀ b, H b = none → Q (.osl b 0 fs.length sz false) (upd H b (some (.arr sz fs))))
    | .sl sz' es full => sz' = sz ∧ full = true ∧ (es.length + fs.length) * bytesT P t ≤ 140737488355328 ∧ es.length + fs.length ≤ 140737488355328 ∧ (fs = [] → Q (.sl sz es full) H) ∧
        (fs ≠ [] → ∀ b, H b = none → Q (.osl b 0 (es.length + fs.length) sz false) (upd H b (some (.arr sz (es ++ fs)))))
    | .osl b0 i n sz' _ => match H b0 with
      | some (.arr sz'' es) => sz' = sz ∧ sz'' = sz ∧ i = 0 ∧ n ≤ es.length ∧ (n + fs.length) * bytesT P t ≤ 140737488355328 ∧ n + fs.length ≤ 140737488355328 ∧
          ∀ b, (b = b0 ∨ H b = none) → Q (.osl b 0 (n + fs.length) sz false) (upd (upd H b0 none) b (some (.arr sz (es.take n ++ fs))))
      | _ => False
    | _ => False

theorem wpAppend0_sound {P : Program} {k : K} {H : Hp} {w : World} (hr : Rel k H w) {t tx ty : TypeId} {v u : Value} {d x : V} (hd : Conc k v d) (hx : Conc k u x) {Q : V → Hp → Prop} (h : wpAppend0 P H t tx d x Q) :
    ∃ r w', (Builtin.append_ #[t, tx] ty #[v, u]).run P w = .ok r w' ∧ OpPost k H w Q r w' := by
  obtain ⟨sz, fs, hdt, hsv, ho, h⟩ := h
  obtain ⟨D⟩ := dstT_spec hdt
  obtain ⟨news, hS, hLn⟩ := srcV_sound hr D.hs hx hsv ho
  have hnil : fs = [] → news = [] := fun e => List.eq_nil_of_length_eq_zero (by rw [hLn.1, e]; simp)
  cases hd <;> dsimp only at h <;> try (exact h.elim)
  case nils =>
    obtain ⟨h1, h2, h3, h4⟩ := h
    by_cases c : fs = []
    · have := hnil c
      subst c; subst this
      exact append_none hr D hS (Nat.le_refl _) .nils (h3 rfl)
    · have hpos : 0 < fs.length := List.length_pos_iff.2 c
      have := append_grow (olds := []) (es := []) (n := 0) (c := 0) (base := none) (ty := ty) (Q := Q) hr D ⟨by simp, by simp, by simp⟩ rfl (by simp) (fun _ => rfl) hS hLn rfl (by omega) (by rw [Nat.zero_add]; exact h1) (by omega)
        (by rw [Nat.zero_add]; simpa using h4 c)
      exact this
  case slnil sz' full =>
    obtain ⟨rfl, hf, h1, h2, h3, h4⟩ := h
    by_cases c : fs = []
    · have := hnil c
      subst c; subst this
      exact append_none hr D hS (Nat.le_refl _) (.slnil _ _) (h3 rfl)
    · have hpos : 0 < fs.length := List.length_pos_iff.2 c
      have := append_grow (olds := []) (es := []) (n := 0) (c := 0) (base := none) (ty := ty) (Q := Q) hr D ⟨by simp, by simp, by simp⟩ rfl (by simp) (fun _ => rfl) hS hLn rfl (by omega) (by simpa using h1) (by simpa using h2)
        (by simpa using h4 c)
      exact this
  case sl b off cap sz' es full vs hszs hcap hf hM hcv =>
    obtain ⟨rfl, hf', h1, h2, h3, h4⟩ := h
    have hcap' := hf hf'
    subst hcap'
    have hd' : Conc k (.slice (some ⟨b, off, none⟩) es.length es.length) (.sl sz' es full) := .sl b off _ sz' es full vs hszs hcap hf hM hcv
    by_cases c : fs = []
    · have := hnil c
      subst c; subst this
      exact append_none hr D hS (Nat.le_refl _) hd' (h3 rfl)
    · have hpos : 0 < fs.length := List.length_pos_iff.2 c
      obtain ⟨a, c', e1, _, hsz, olds, hlo, hco, _, hcc⟩ := view_cells (H := H) hr hd' D.hs (es := es) (by simp [view])
      cases e1
      exact append_grow hr D ⟨hlo, hsz, hcc⟩ rfl hco (fun e => by cases e) hS hLn rfl (by omega) h1 h2 (h4 c)
  case osl b0 i n sz' cap c full hR hcap hcc hf =>
    split at h
    · rename_i sz'' es hb
      obtain ⟨rfl, rfl, rfl, hn, h1, h2, h3⟩ := h
      have hd' : Conc k (.slice (some ⟨b0, 0 * sz'', none⟩) n cap) (.osl b0 0 n sz'' full) := .osl b0 0 n sz'' cap c full hR hcap hcc hf
      rw [Nat.zero_mul] at hd' ⊢
      have hupd : ∀ (x : Blk), upd (upd H b0 none) b0 (some x) = upd H b0 (some x) := fun x => by funext j; simp only [upd]; split <;> rfl
      by_cases c' : n + fs.length ≤ cap
      · refine append_room hr D hb hn hR hcc hS hLn rfl c' ?_
        have := h3 b0 (.inl rfl)
        rw [hupd] at this
        exact this
      · obtain ⟨a, c'', e1, _, hsz, olds, hlo, hco, _, hcc'⟩ := view_cells (H := H) hr hd' D.hs (es := es.take n) (by simp [view, hb]; omega)
        have hlen : (es.take n).length = n := by simp; omega
        rw [hlen] at e1
        cases e1
        have hr' : Rel k (upd H b0 none) w := hr.drop (fun b x hx => by
          by_cases e : b = b0
          · subst e; rw [upd_same] at hx; cases hx
          · rw [upd_ne _ _ _ e] at hx; exact hx)
        obtain ⟨r, w', hrun, y, H', k', hq, hk, hrel, hc, hfr⟩ := append_grow (Q := Q) (n := n) (c := cap) (base := some ⟨b0, 0, none⟩) (es := es.take n) (olds := olds) hr' D (ty := ty) ⟨hlo, hsz, hcc'⟩ hlen (fun j u hj => by
          obtain ⟨ad, e1, e2⟩ := hco j u hj
          cases e1
          exact ⟨_, rfl, by simpa using e2⟩) (fun e => by cases e) hS hLn rfl (by omega) h1 h2 (fun b hbn => by
          by_cases e : b = b0
          · subst e
            exact h3 b (.inl rfl)
          · rw [upd_ne _ _ _ e] at hbn
            exact h3 b (.inr hbn))
        refine ⟨r, w', hrun, y, H', k', hq, hk, hrel, hc, ⟨hfr.os, hfr.tape, hfr.out, hfr.size, fun b hb' hn' => hfr.same b hb' ?_, fun b hb' hn' => hfr.dom b hb' ?_⟩⟩
        · by_cases e : b = b0
          · subst e; exact upd_same _ _ _
          · rw [upd_ne _ _ _ e]; exact hn'
        · by_cases e : b = b0
          · subst e; exact upd_same _ _ _
          · rw [upd_ne _ _ _ e]; exact hn'
    · exact h.elim

/-- append(nil, make(.., n)..): n zeros, of which nothing is said. -/
def wpAppendZ (P : Program) (H : Hp) (t tx : TypeId) (d x : V) (Q : V → Hp → Prop) : Prop :=
  d = .nils ∧ ∃ (n sz : Nat) (k : IntKind), x = .int .i64 n ∧ P.underlying tx = some (.int k) ∧ dstT P t = some sz ∧ 0 < n ∧ n * bytesT P t ≤ 140737488355328 ∧ n ≤ 140737488355328 ∧
    ∀ b, H b = none → Q (.osl b 0 n sz false) (upd H b (some (.arr sz [])))

theorem run_append_zeros {P : Program} (w : World) {t tx ty e : TypeId} {i : TypeInfo} {z : Value} {k : IntKind} (ht : P.underlying t = some (.slice e)) (hk : P.underlying tx = some (.int k)) (hi : P.info? e = some i) (hz : i.zero = some z) (n : Nat) (hn : 0 < n) (hsz : 0 < i.size)
    (hb : n * i.bytes ≤ 140737488355328) (h63 : n ≤ 140737488355328) :
    (Builtin.append_ #[t, tx] ty #[.slice none 0 0, .int .i64 n]).run P w =
      .ok (.slice (some ⟨w.heap.size, 0, none⟩) n (grownCap w n 0 e)) (w.drew.alloc (.cells (Builtin.zeroCells z.cells n ++ Builtin.zeroCells z.cells (grownCap w n 0 e - n)) e)) := by
  have w1 : IntKind.i64.wrap (n : Int) = n := IntWalk.i64_in _ (by omega)
  have n1 : ¬ ((n : Int) < 0) := by omega
  have n2 : ¬ (281474976710656 < (n : Int) * (i.bytes : Int)) := by
    rw [← Int.natCast_mul]; omega
  have n3 : ¬ (n ≤ 0) := by omega
  have n4 : ¬ (9223372036854775807 < (n : Int)) := by omega
  have n5 : ¬ (281474976710656 < Builtin.nextslicecap n 0 * i.bytes) := by
    have := growslice_fits (need := n) (old := 0) (by omega) hb
    omega
  have n6 : ¬ (n = 0 ∨ i.size = 0) := by omega
  have n7 : ¬ (n = 0) := by omega
  have n8 : ¬ (i.size = 0) := by omega
  simp [Builtin.append_, run_underlying ht, run_underlying hk, sizeOf, typeInfo, zeroValue, hi, hz, asInt, asIntOf, w1, n1, n2, n3, n4, n5, n6, n7, n8, Question.forced, newRow, grownCap, Builtin.firstCells]
  intro h
  have := Nat.mul_pos hn hsz
  omega

theorem wpAppendZ_sound {P : Program} {k : K} {H : Hp} {w : World} (hr : Rel k H w) {t tx ty : TypeId} {v u : Value} {d x : V} (hd : Conc k v d) (hx : Conc k u x) {Q : V → Hp → Prop} (h : wpAppendZ P H t tx d x Q) :
    ∃ r w', (Builtin.append_ #[t, tx] ty #[v, u]).run P w = .ok r w' ∧ OpPost k H w Q r w' := by
  obtain ⟨rfl, n, sz, ik, rfl, hk, hdt, hn, hb, h63, hQ⟩ := h
  cases hd
  cases hx
  obtain ⟨⟨e, i, z, ht, hi, hz, rfl, hzs, hsp⟩⟩ := dstT_spec hdt
  rw [bytesT_spec ht hi] at hb
  have hL : Laid k (Builtin.zeroCells z.cells n ++ Builtin.zeroCells z.cells (grownCap w n 0 e - n)) i.size [] := ⟨by simp, by simp, by simp⟩
  obtain ⟨g1, g2, g3⟩ := alloc_arr (e := e) hr.drew hL
  have hge := grownCap_ge w n 0 e
  refine ⟨_, _, run_append_zeros w ht hk hi hz n hn hsp hb h63, _, _, _, hQ w.drew.heap.size hr.drew.fresh, g1, g2, ?_, (Fr.drew H w).trans (Fr.alloc_own _ _)⟩
  have hsize : (0 + grownCap w n 0 e) * i.size ≤ (Builtin.zeroCells z.cells n ++ Builtin.zeroCells z.cells (grownCap w n 0 e - n)).size := by
    rw [Nat.zero_add, Array.size_append, size_zeroCells, size_zeroCells, hzs, ← Nat.add_mul]
    exact Nat.mul_le_mul_right _ (by omega)
  have := Conc.osl (k := _) w.drew.heap.size 0 n i.size _ _ false g3 hge hsize (fun hf => by cases hf)
  rw [Nat.zero_mul] at this
  exact this

/-- **append.** -/
def wpAppend (P : Program) (H : Hp) (t tx : TypeId) (d x : V) (Q : V → Hp → Prop) : Prop := wpAppend0 P H t tx d x Q ∨ wpAppendZ P H t tx d x Q
theorem wpAppend_sound {P : Program} {k : K} {H : Hp} {w : World} (hr : Rel k H w) {t tx ty : TypeId} {v u : Value} {d x : V} (hd : Conc k v d) (hx : Conc k u x) {Q : V → Hp → Prop} (h : wpAppend P H t tx d x Q) :
    ∃ r w', (Builtin.append_ #[t, tx] ty #[v, u]).run P w = .ok r w' ∧ OpPost k H w Q r w' := by
  rcases h with h | h
  · exact wpAppend0_sound hr hd hx h
  · exact wpAppendZ_sound hr hd hx h

end Go.Av
