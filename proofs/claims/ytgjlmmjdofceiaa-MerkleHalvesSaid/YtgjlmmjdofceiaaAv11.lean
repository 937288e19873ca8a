/-
  Abstract values: copy, conversions, calls; 'wpOp': one operation.
-/
import Derived.Test.YtgjlmmjdofceiaaAv10
namespace Go.Av
open Go.RowKit

/-! ### copy -/
def wpCopy (P : Program) (H : Hp) (td ts : TypeId) (d x : V) (Q : V → Hp → Prop) : Prop :=
  ∃ sz fs, dstT P td = some sz ∧ srcV P H sz ts x = some fs ∧ onesEs fs = true ∧
    match d with
    | .nils => Q (.int .i64 0) H
    | .sl _ [] _ => Q (.int .i64 0) H
    | .rsl b off n sz' => match H b with
      | some (.row cells) => sz' = sz ∧ off + n * sz ≤ cells.length ∧ Q (.int .i64 ((min fs.length n : Nat) : Int)) (upd H b (some (.row (splice cells off (fs.take n).flatten))))
      | _ => False
    | .osl b i n sz' _ => match H b with
      | some (.arr sz'' es) => sz' = sz ∧ sz'' = sz ∧ i + n ≤ es.length ∧ Q (.int .i64 ((min fs.length n : Nat) : Int)) (upd H b (some (.arr sz (es.take i ++ (fs.take n ++ es.drop (i + min fs.length n))))))
      | _ => False
    | _ => False

theorem Lay.take {k : K} {news : List Value} {sz : Nat} {fs : List (List V)} (h : Lay k news sz fs) (n : Nat) : Lay k (news.take (n * sz)) sz (fs.take n) := by
  obtain ⟨h1, h2, h3⟩ := h
  refine ⟨?_, fun e he => h2 e (List.mem_of_mem_take he), fun i e j y hi hj => ?_⟩
  · rw [List.length_take, List.length_take, h1]
    by_cases c : n ≤ fs.length
    · rw [Nat.min_eq_left c, Nat.min_eq_left (Nat.mul_le_mul_right _ c)]
    · have c' : fs.length ≤ n := by omega
      rw [Nat.min_eq_right (Nat.mul_le_mul_right sz c'), Nat.min_eq_right c']
  · rw [List.getElem?_take] at hi
    split at hi
    · rename_i c
      obtain ⟨u, hu, hc⟩ := h3 i e j y hi hj
      have hj' : j < sz := by rw [← h2 e (List.mem_of_getElem? hi)]; exact (List.getElem?_eq_some_iff.1 hj).1
      exact ⟨u, by rw [List.getElem?_take_of_lt (flat_lt c hj')]; exact hu, hc⟩
    · cases hi

theorem flatten_len {sz : Nat} : ∀ (es : List (List V)), (∀ e ∈ es, e.length = sz) → es.flatten.length = es.length * sz
  | [], _ => by simp
  | e :: es, h => by
    rw [List.flatten_cons, List.length_append, flatten_len es (fun x hx => h x (by simp [hx])), h e (by simp), List.length_cons, Nat.succ_mul, Nat.add_comm]
theorem flatten_get {sz : Nat} : ∀ (es : List (List V)), (∀ e ∈ es, e.length = sz) → ∀ (m : Nat) y, es.flatten[m]? = some y → ∃ i j e, m = i * sz + j ∧ es[i]? = some e ∧ e[j]? = some y
  | [], _, m, y, hy => by simp at hy
  | e :: es, h, m, y, hy => by
    have he := h e (by simp)
    rw [List.flatten_cons] at hy
    by_cases c : m < e.length
    · rw [List.getElem?_append_left c] at hy
      exact ⟨0, m, e, by simp, by simp, hy⟩
    · rw [List.getElem?_append_right (by omega)] at hy
      obtain ⟨i, j, e', h1, h2, h3⟩ := flatten_get es (fun x hx => h x (by simp [hx])) _ y hy
      exact ⟨i + 1, j, e', by rw [Nat.succ_mul]; omega, by simpa using h2, h3⟩

theorem Lay.flat {k : K} {news : List Value} {sz : Nat} {fs : List (List V)} (h : Lay k news sz fs) : ConcL k news.toArray fs.flatten := by
  obtain ⟨h1, h2, h3⟩ := h
  refine ⟨by rw [flatten_len fs h2, List.size_toArray, h1], fun m v y hv hy => ?_⟩
  obtain ⟨i, j, e, rfl, hi, hj⟩ := flatten_get fs h2 m y hy
  obtain ⟨u, hu, hc⟩ := h3 i e j y hi hj
  rw [List.getElem?_toArray, hu] at hv
  cases hv
  exact hc

theorem firstCells_min {P : Program} {w : World} {sz : Nat} {ts : TypeId} {x : Value} {m : Nat} {news : List Value} (hs : Src P sz ts x m news w) (q : Nat) (hq : q ≤ m) (hx : (∃ a c, x = .slice a m c) ∨ ∃ s, x = .string s ∧ sz = 1)
    (hcells : ∀ (j : Nat) u a c, x = .slice a m c → news[j]? = some u → ∃ ad, a = some ad ∧ w.cell? (ad.add j) = some u) :
    (Builtin.firstCells sz q x).run P w = .ok (news.take (q * sz)).toArray w := by
  have hlen : (news.take (q * sz)).length = q * sz := by
    rw [List.length_take, hs.newsLen]
    exact Nat.min_eq_left (Nat.mul_le_mul_right _ hq)
  rcases hx with ⟨a, c, rfl⟩ | ⟨s, rfl, rfl⟩
  · cases a with
    | none =>
      have : (news.take (q * sz)) = [] := by
        cases hn : news.take (q * sz) with
        | nil => rfl
        | cons u us =>
          have : news[0]? = some u := by
            have h0 : (news.take (q * sz))[0]? = some u := by rw [hn]; rfl
            rw [List.getElem?_take] at h0
            split at h0
            · exact h0
            · cases h0
          obtain ⟨ad, e, _⟩ := hcells 0 u none c rfl this
          cases e
      rw [this]
      exact run_firstCells_none w sz q m c
    | some ad =>
      refine run_firstCells_some w sz q ad m c (news.take (q * sz)) hlen (fun j u hj => ?_)
      rw [List.getElem?_take] at hj
      split at hj
      · obtain ⟨ad', e, h⟩ := hcells j u (some ad) c rfl hj
        cases e
        exact h
      · cases hj
  · have h1 := hs.cells
    have hl := hs.len w
    simp only [Builtin.lenOf, Sem.run_pure, Result.ok.injEq, and_true] at hl
    simp only [Builtin.firstCells, Sem.run_pure, Result.ok.injEq, and_true] at h1 ⊢
    apply Array.ext'
    have h2 := congrArg Array.toList h1
    simp only at h2 ⊢
    rw [← h2, Nat.mul_one]
    subst hl
    simp [ByteArray.data_extract]

theorem srcV_kind {P : Program} {k : K} {H : Hp} {w : World} (hr : Rel k H w) {sz : Nat} (hsp : 0 < sz) {tx : TypeId} {v : Value} {x : V} (hx : Conc k v x) {fs : List (List V)} (h : srcV P H sz tx x = some fs) (ho : onesEs fs = true) :
    ∃ news, Src P sz tx v fs.length news w ∧ Lay k news sz fs ∧ ((∃ a c, v = .slice a fs.length c) ∨ ∃ s, v = .string s ∧ sz = 1) ∧
      (∀ (j : Nat) u a c, v = .slice a fs.length c → news[j]? = some u → ∃ ad, a = some ad ∧ w.cell? (ad.add j) = some u) := by
  unfold srcV at h
  split at h
  · rename_i e hu
    obtain ⟨a, c, rfl, hle, hsz, news, hl, hc, hn, hcc⟩ := view_cells hr hx hsp h
    have h1 := news_one hsp hl hsz hcc ho
    refine ⟨news, ?_, ⟨hl, hsz, hcc⟩, .inl ⟨a, c, rfl⟩, fun j u a' c' e hj => by cases e; exact hc j u hj⟩
    cases a with
    | none =>
      have := hn rfl
      subst this
      have : news = [] := List.eq_nil_of_length_eq_zero (by rw [hl]; simp)
      subst this
      exact Src.ofNil w hu c
    | some ad =>
      refine Src.ofSlice w hu ad fs.length c news hl (fun j u hj => ?_) h1
      obtain ⟨ad', e1, h2⟩ := hc j u hj
      cases e1
      exact h2
  · rename_i hu
    have h0 := h
    split at h
    · split at h
      · rename_i s hs1
        obtain ⟨news, h1, h2⟩ := srcV_sound hr hsp hx (by unfold srcV; rw [hu]; exact h0) ho
        cases hx
        exact ⟨news, h1, h2, .inr ⟨s, rfl, hs1⟩, fun j u a c e => by cases e⟩
      · cases h
    · cases h
  · cases h

theorem wpCopy_sound {P : Program} {k : K} {H : Hp} {w : World} (hr : Rel k H w) {td ts ty : TypeId} {v u : Value} {d x : V} (hd : Conc k v d) (hx : Conc k u x) {Q : V → Hp → Prop} (h : wpCopy P H td ts d x Q) :
    ∃ r w', (Builtin.copy_ #[td, ts] ty #[v, u]).run P w = .ok r w' ∧ OpPost k H w Q r w' := by
  obtain ⟨sz, fs, hdt, hsv, ho, h⟩ := h
  obtain ⟨D⟩ := dstT_spec hdt
  obtain ⟨news, hS, hLn, hkind, hcells⟩ := srcV_kind hr D.hs hx hsv ho
  have hlo := hS.len w
  have hrun : ∀ (base : Option Addr) (n c : Nat) (w' : World), (∀ ad, base = some ad → (storeCells ad (news.take (min fs.length n * sz))).run P w = .ok () w') → (base = none → w' = w) →
      (Builtin.copy_ #[td, ts] ty #[.slice base n c, u]).run P w = .ok (goInt (min fs.length n : Nat)) w' := by
    intro base n c w' h1 h2
    have hfc := firstCells_min hS (min fs.length n) (Nat.min_le_left _ _) hkind hcells
    have hsz := D.hsz
    have e1 : (Nat.min fs.length n) = min fs.length n := rfl
    simp only [Builtin.copy_, Sem.run_bind, run_underlying D.ht, Result.andThen_ok, hlo, run_sizeOf' D.hi, hsz, Array.getElem?_eq_getElem, List.size_toArray, List.length_cons, List.length_nil, Nat.reduceAdd, List.getElem_toArray, List.getElem_cons_zero, List.getElem_cons_succ, Nat.lt_add_one, Nat.zero_lt_succ]
    rw [e1, hfc]
    cases base with
    | none => simp [h2 rfl]
    | some ad => simp [h1 ad rfl]
  cases hd <;> (try dsimp only at h) <;> try (exact h.elim)
  case nils =>
    exact ⟨_, _, hrun none 0 0 w (by simp) (fun _ => rfl), _, _, k, h, K.le.refl _, hr, by simpa [goInt] using Conc.int (k := k) .i64 0, Fr.refl _ _⟩
  case slnil sz' full =>
    exact ⟨_, _, hrun none 0 0 w (by simp) (fun _ => rfl), _, _, k, h, K.le.refl _, hr, by simpa [goInt] using Conc.int (k := k) .i64 0, Fr.refl _ _⟩
  case sl b off cap sz' es full vs hszs hcap hf hM hcv =>
    cases es with
    | nil =>
      refine ⟨_, _, hrun (some ⟨b, off, none⟩) 0 cap w (fun ad _ => by simp [storeCells]) (fun _ => rfl), _, _, k, h, K.le.refl _, hr, by simpa [goInt] using Conc.int (k := k) .i64 0, Fr.refl _ _⟩
    | cons e es => exact h.elim
  case rsl b off n sz' cap hcap =>
    split at h
    · rename_i cells hb
      obtain ⟨rfl, hle, hq⟩ := h
      obtain ⟨cs, e, g1, g2⟩ := hr.own _ _ hb
      have hcs : cells.length = cs.size := g2.1
      have hLt := hLn.take (min fs.length n)
      have htk : fs.take (min fs.length n) = fs.take n := by
        by_cases c : fs.length ≤ n
        · rw [Nat.min_eq_left c, List.take_length, List.take_of_length_le c]
        · rw [Nat.min_eq_right (by omega)]
      rw [htk] at hLt
      have hfl := hLt.flat
      have hln : (news.take (min fs.length n * sz')).length = (fs.take n).flatten.length := by have := hfl.1; simp only [List.size_toArray] at this; exact this.symm
      have hle2 : (fs.take n).flatten.length ≤ n * sz' := by
        rw [flatten_len _ hLt.2.1]
        exact Nat.mul_le_mul_right _ (by simp; omega)
      have hfit : off + (news.take (min fs.length n * sz')).length ≤ cs.size := by omega
      have h1 : ∀ u ∈ news.take (min fs.length n * sz'), u.oneCell' = true := fun u hu => hS.one u (List.mem_of_mem_take hu)
      have hst := run_storeCells_at P b off e (news.take (min fs.length n * sz')) 0 cs w g1 (by simpa using hfit) h1
      simp only [Nat.add_zero] at hst
      obtain ⟨s1, s2⟩ := hr.setRow g1 (seg_size cs _ _ hfit) hb (x := .row (splice cells off (fs.take n).flatten)) ⟨_, e, setRow_heap w b cs _ e _ g1, by
        rw [seg_size _ _ _ hfit, splice_len (by omega)]; exact hcs, fun j v' y a b' => by
        rw [seg_get _ _ _ _ hfit] at a
        rw [splice_get (by omega)] at b'
        by_cases c1 : off ≤ j ∧ j < off + (fs.take n).flatten.length
        · rw [if_pos c1] at b'
          rw [if_pos (by omega)] at a
          exact hfl.2 _ v' y (by simpa using a) b'
        · rw [if_neg c1] at b'
          rw [if_neg (by omega)] at a
          exact g2.2 j v' y a b'⟩
      exact ⟨_, _, hrun (some ⟨b, off, none⟩) n cap _ (fun ad e => by cases e; exact hst) (by simp), _, _, k, hq, K.le.refl _, s1, .int _ _, s2⟩
    · exact h.elim
  case osl b i n sz' cap c full hR hcap hcc hf =>
    split at h
    · rename_i sz'' es hb
      obtain ⟨rfl, rfl, hle, hq⟩ := h
      obtain ⟨cs, e, g1, g2, g3, g4⟩ := hr.own _ _ hb
      have hLt := hLn.take (min fs.length n)
      have htk : fs.take (min fs.length n) = fs.take n := by
        by_cases c : fs.length ≤ n
        · rw [Nat.min_eq_left c, List.take_length, List.take_of_length_le c]
        · rw [Nat.min_eq_right (by omega)]
      rw [htk] at hLt
      have hm : (fs.take n).length = min fs.length n := by simp [Nat.min_comm]
      have hln : (news.take (min fs.length n * sz'')).length = min fs.length n * sz'' := by rw [hLt.1, hm]
      have hfit : i * sz'' + (news.take (min fs.length n * sz'')).length ≤ cs.size := by
        rw [hln, ← Nat.add_mul]
        refine Nat.le_trans (Nat.mul_le_mul_right _ ?_) g2
        omega
      have h1 : ∀ u ∈ news.take (min fs.length n * sz''), u.oneCell' = true := fun u hu => hS.one u (List.mem_of_mem_take hu)
      have hst := run_storeCells_at P b (i * sz'') e (news.take (min fs.length n * sz'')) 0 cs w g1 (by simpa using hfit) h1
      simp only [Nat.add_zero] at hst
      obtain ⟨s1, s2⟩ := hr.setRow g1 (seg_size cs _ _ hfit) hb (x := .arr sz'' (es.take i ++ (fs.take n ++ es.drop (i + min fs.length n)))) ⟨_, e, setRow_heap w b cs _ e _ g1, by
        rw [seg_size _ _ _ hfit]
        refine Nat.le_trans (Nat.mul_le_mul_right _ ?_) g2
        simp; omega, fun a ha => by
        rcases List.mem_append.1 ha with h' | h'
        · exact g3 a (List.mem_of_mem_take h')
        · rcases List.mem_append.1 h' with h'' | h''
          · exact hLt.2.1 a h''
          · exact g3 a (List.mem_of_mem_drop h''), fun a el j y ha hj => by
        rw [seg_get _ _ _ _ hfit]
        have hti : (es.take i).length = i := by simp; omega
        by_cases c0 : a < i
        · rw [List.getElem?_append_left (by omega), List.getElem?_take_of_lt c0] at ha
          have hj' : j < sz'' := by rw [← g3 el (List.mem_of_getElem? ha)]; exact (List.getElem?_eq_some_iff.1 hj).1
          have := flat_lt c0 hj'
          rw [if_neg (by omega)]
          exact g4 a el j y ha hj
        · rw [List.getElem?_append_right (by omega), hti] at ha
          by_cases c1 : a - i < min fs.length n
          · rw [List.getElem?_append_left (by omega)] at ha
            have hj' : j < sz'' := by rw [← hLt.2.1 el (List.mem_of_getElem? ha)]; exact (List.getElem?_eq_some_iff.1 hj).1
            have h1 := flat_lt c1 hj'
            have e1 : a * sz'' = i * sz'' + (a - i) * sz'' := by rw [← Nat.add_mul]; congr 1; omega
            rw [if_pos (by omega)]
            obtain ⟨u, hu, hcu⟩ := hLt.2.2 _ el j y ha hj
            refine ⟨u, ?_, hcu⟩
            rw [← hu]
            congr 1
            omega
          · rw [List.getElem?_append_right (by omega), hm, List.getElem?_drop] at ha
            have e0 : i + min fs.length n + (a - i - min fs.length n) = a := by omega
            rw [e0] at ha
            have e1 : (i + min fs.length n) * sz'' ≤ a * sz'' := Nat.mul_le_mul_right _ (by omega)
            rw [Nat.add_mul] at e1
            rw [if_neg (by omega)]
            exact g4 a el j y ha hj⟩
      exact ⟨_, _, hrun (some ⟨b, i * sz'', none⟩) n cap _ (fun ad e => by cases e; exact hst) (by simp), _, _, k, hq, K.le.refl _, s1, .int _ _, s2⟩
    · exact h.elim

end Go.Av
