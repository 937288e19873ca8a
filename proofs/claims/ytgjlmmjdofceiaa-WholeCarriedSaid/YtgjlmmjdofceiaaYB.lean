/-
  Abstract values: copy, conversions, calls; 'wpOp': one operation.
  Abstract values: an owned block is taken as lasting; a function's end.
  Abstract values: maps whose keys are arrays or structs; a box by value.
  Abstract values: 'wpOp', one operation, and its soundness.
  Abstract values: the slots of a frame, and a region in the text's order.
  Abstract values: a region that draws its order.
  Abstract values: a region that draws its order, sound.
  Abstract values: 'wpC', code, and its soundness.
  Abstract values: the soundness of 'wpC'.
  Abstract values: the soundness of 'wpC': a range over a function; all code.
  Abstract values: a function's end; 'Sound' out of 'wpC'.
  Abstract values: 'Sound' out of a body's 'wpC'.
-/
import Derived.Test.YtgjlmmjdofceiaaYA
import Derived.Maps.RangeRun
import Derived.OrdersIn
import Derived.StillTail

namespace Go.Av
open Go.RowKit

/-! ### copy -/
def wpCopy (P : Program) (H : Hp) (td ts : TypeId) (d x : V) (Q : V → Hp → Prop) : Prop :=
  ∃ sz fs, dstT P td = some sz ∧ srcV P H sz ts x = some fs ∧ bo fs = true ∧
    match d with
    | .nils => Q (.int .i64 0) H
    | .sl _ [] _ => Q (.int .i64 0) H
    | .rsl b off n sz' => match H b with
      | some (.row cells) => sz' = sz ∧ off + n * sz ≤ cells.length ∧ Q (.int .i64 ((min fs.length n : Nat) : Int)) (upd H b (some (.row (br cells off (fs.take n).flatten))))
      | _ => False
    | .osl b i n sz' _ => match H b with
      | some (.arr sz'' es) => sz' = sz ∧ sz'' = sz ∧ i + n ≤ es.length ∧ Q (.int .i64 ((min fs.length n : Nat) : Int)) (upd H b (some (.arr sz (es.take i ++ (fs.take n ++ es.drop (i + min fs.length n))))))
      | _ => False
    | _ => False

theorem Lay.take {k : K} {news : List Value} {sz : Nat} {fs : List (List V)} (h : Lay k news sz fs) (n : Nat) : Lay k (news.take (n * sz)) sz (fs.take n) := by
  obtain ⟨h1, h2, h3⟩ := h
  refine ⟨?_, fun e he => h2 e (List.mem_of_mem_take he), fun i e j y hi hj => ?_⟩
  · rw [List.length_take, List.length_take, h1]
    by_cases c : n ≤ fs.length
    · rw [Nat.min_eq_left c, Nat.min_eq_left (Nat.mul_le_mul_right _ c)]
    · have c' : fs.length ≤ n := by omega
      rw [Nat.min_eq_right (Nat.mul_le_mul_right sz c'), Nat.min_eq_right c']
  · rw [List.getElem?_take] at hi
    split at hi
    · rename_i c
      obtain ⟨u, hu, hc⟩ := h3 i e j y hi hj
      have hj' : j < sz := by rw [← h2 e (List.mem_of_getElem? hi)]; exact (List.getElem?_eq_some_iff.1 hj).1
      exact ⟨u, by rw [List.getElem?_take_of_lt (flat_lt c hj')]; exact hu, hc⟩
    · cases hi

theorem flatten_len {sz : Nat} : ∀ (es : List (List V)), (∀ e ∈ es, e.length = sz) → es.flatten.length = es.length * sz
  | [], _ => by simp
  | e :: es, h => by
    rw [List.flatten_cons, List.length_append, flatten_len es (fun x hx => h x (by simp [hx])), h e (by simp), List.length_cons, Nat.succ_mul, Nat.add_comm]
theorem flatten_get {sz : Nat} : ∀ (es : List (List V)), (∀ e ∈ es, e.length = sz) → ∀ (m : Nat) y, es.flatten[m]? = some y → ∃ i j e, m = i * sz + j ∧ es[i]? = some e ∧ e[j]? = some y
  | [], _, m, y, hy => by simp at hy
  | e :: es, h, m, y, hy => by
    have he := h e (by simp)
    rw [List.flatten_cons] at hy
    by_cases c : m < e.length
    · rw [List.getElem?_append_left c] at hy
      exact ⟨0, m, e, by simp, by simp, hy⟩
    · rw [List.getElem?_append_right (by omega)] at hy
      obtain ⟨i, j, e', h1, h2, h3⟩ := flatten_get es (fun x hx => h x (by simp [hx])) _ y hy
      exact ⟨i + 1, j, e', by rw [Nat.succ_mul]; omega, by simpa using h2, h3⟩

theorem Lay.flat {k : K} {news : List Value} {sz : Nat} {fs : List (List V)} (h : Lay k news sz fs) : ConcL k news.toArray fs.flatten := by
  obtain ⟨h1, h2, h3⟩ := h
  refine ⟨by rw [flatten_len fs h2, List.size_toArray, h1], fun m v y hv hy => ?_⟩
  obtain ⟨i, j, e, rfl, hi, hj⟩ := flatten_get fs h2 m y hy
  obtain ⟨u, hu, hc⟩ := h3 i e j y hi hj
  rw [List.getElem?_toArray, hu] at hv
  cases hv
  exact hc

theorem firstCells_min {P : Program} {w : World} {sz : Nat} {ts : TypeId} {x : Value} {m : Nat} {news : List Value} (hs : Src P sz ts x m news w) (q : Nat) (hq : q ≤ m) (hx : (∃ a c, x = .slice a m c) ∨ ∃ s, x = .string s ∧ sz = 1)
    (hcells : ∀ (j : Nat) u a c, x = .slice a m c → news[j]? = some u → ∃ ad, a = some ad ∧ w.cell? (ad.add j) = some u) :
    (Builtin.firstCells sz q x).run P w = .ok (news.take (q * sz)).toArray w := by
  have hlen : (news.take (q * sz)).length = q * sz := by
    rw [List.length_take, hs.newsLen]
    exact Nat.min_eq_left (Nat.mul_le_mul_right _ hq)
  rcases hx with ⟨a, c, rfl⟩ | ⟨s, rfl, rfl⟩
  · cases a with
    | none =>
      have : (news.take (q * sz)) = [] := by
        cases hn : news.take (q * sz) with
        | nil => rfl
        | cons u us =>
          have : news[0]? = some u := by
            have h0 : (news.take (q * sz))[0]? = some u := by rw [hn]; rfl
            rw [List.getElem?_take] at h0
            split at h0
            · exact h0
            · cases h0
          obtain ⟨ad, e, _⟩ := hcells 0 u none c rfl this
          cases e
      rw [this]
      exact run_firstCells_none w sz q m c
    | some ad =>
      refine run_firstCells_some w sz q ad m c (news.take (q * sz)) hlen (fun j u hj => ?_)
      rw [List.getElem?_take] at hj
      split at hj
      · obtain ⟨ad', e, h⟩ := hcells j u (some ad) c rfl hj
        cases e
        exact h
      · cases hj
  · have h1 := hs.cells
    have hl := hs.len w
    simp only [Builtin.lenOf, Sem.run_pure, Result.ok.injEq, and_true] at hl
    simp only [Builtin.firstCells, Sem.run_pure, Result.ok.injEq, and_true] at h1 ⊢
    apply Array.ext'
    have h2 := congrArg Array.toList h1
    simp only at h2 ⊢
    rw [← h2, Nat.mul_one]
    subst hl
    simp [ByteArray.data_extract]

theorem srcV_kind {P : Program} {k : K} {H : Hp} {w : World} (hr : Rel k H w) {sz : Nat} (hsp : 0 < sz) {tx : TypeId} {v : Value} {x : V} (hx : Conc k v x) {fs : List (List V)} (h : srcV P H sz tx x = some fs) (ho : bo fs = true) :
    ∃ news, Src P sz tx v fs.length news w ∧ Lay k news sz fs ∧ ((∃ a c, v = .slice a fs.length c) ∨ ∃ s, v = .string s ∧ sz = 1) ∧
      (∀ (j : Nat) u a c, v = .slice a fs.length c → news[j]? = some u → ∃ ad, a = some ad ∧ w.cell? (ad.add j) = some u) := by
  unfold srcV at h
  split at h
  · rename_i e hu
    obtain ⟨a, c, rfl, hle, hsz, news, hl, hc, hn, hcc⟩ := view_cells hr hx hsp h
    have h1 := news_one hsp hl hsz hcc ho
    refine ⟨news, ?_, ⟨hl, hsz, hcc⟩, .inl ⟨a, c, rfl⟩, fun j u a' c' e hj => by cases e; exact hc j u hj⟩
    cases a with
    | none =>
      have := hn rfl
      subst this
      have : news = [] := List.eq_nil_of_length_eq_zero (by rw [hl]; simp)
      subst this
      exact Src.ofNil w hu c
    | some ad =>
      refine Src.ofSlice w hu ad fs.length c news hl (fun j u hj => ?_) h1
      obtain ⟨ad', e1, h2⟩ := hc j u hj
      cases e1
      exact h2
  · rename_i hu
    have h0 := h
    split at h
    · split at h
      · rename_i s hs1
        obtain ⟨news, h1, h2⟩ := srcV_sound hr hsp hx (by unfold srcV; rw [hu]; exact h0) ho
        cases hx
        exact ⟨news, h1, h2, .inr ⟨s, rfl, hs1⟩, fun j u a c e => by cases e⟩
      · cases h
    · cases h
  · cases h

theorem wpCopy_sound {P : Program} {k : K} {H : Hp} {w : World} (hr : Rel k H w) {td ts ty : TypeId} {v u : Value} {d x : V} (hd : Conc k v d) (hx : Conc k u x) {Q : V → Hp → Prop} (h : wpCopy P H td ts d x Q) :
    ∃ r w', (Builtin.copy_ #[td, ts] ty #[v, u]).run P w = .ok r w' ∧ OpPost k H w Q r w' := by
  obtain ⟨sz, fs, hdt, hsv, ho, h⟩ := h
  obtain ⟨D⟩ := dstT_spec hdt
  obtain ⟨news, hS, hLn, hkind, hcells⟩ := srcV_kind hr D.hs hx hsv ho
  have hlo := hS.len w
  have hrun : ∀ (base : Option Addr) (n c : Nat) (w' : World), (∀ ad, base = some ad → (storeCells ad (news.take (min fs.length n * sz))).run P w = .ok () w') → (base = none → w' = w) →
      (Builtin.copy_ #[td, ts] ty #[.slice base n c, u]).run P w = .ok (goInt (min fs.length n : Nat)) w' := by
    intro base n c w' h1 h2
    have hfc := firstCells_min hS (min fs.length n) (Nat.min_le_left _ _) hkind hcells
    have hsz := D.hsz
    have e1 : (Nat.min fs.length n) = min fs.length n := rfl
    simp only [Builtin.copy_, Sem.run_bind, run_underlying D.ht, Result.andThen_ok, hlo, run_sizeOf' D.hi, hsz, Array.getElem?_eq_getElem, List.size_toArray, List.length_cons, List.length_nil, Nat.reduceAdd, List.getElem_toArray, List.getElem_cons_zero, List.getElem_cons_succ, Nat.lt_add_one, Nat.zero_lt_succ]
    rw [e1, hfc]
    cases base with
    | none => simp [h2 rfl]
    | some ad => simp [h1 ad rfl]
  cases hd <;> (try dsimp only at h) <;> try (exact h.elim)
  case nils =>
    exact ⟨_, _, hrun none 0 0 w (by simp) (fun _ => rfl), _, _, k, h, K.le.refl _, hr, by simpa [goInt] using Conc.int (k := k) .i64 0, Fr.refl _ _⟩
  case slnil sz' full =>
    exact ⟨_, _, hrun none 0 0 w (by simp) (fun _ => rfl), _, _, k, h, K.le.refl _, hr, by simpa [goInt] using Conc.int (k := k) .i64 0, Fr.refl _ _⟩
  case slz ad0 sz' full =>
    exact ⟨_, _, hrun (some ad0) 0 0 w (fun ad _ => by simp [storeCells]) (fun _ => rfl), _, _, k, h, K.le.refl _, hr, by simpa [goInt] using Conc.int (k := k) .i64 0, Fr.refl _ _⟩
  case sl b off cap sz' es full vs hszs hcap hf hM hcv =>
    cases es with
    | nil =>
      refine ⟨_, _, hrun (some ⟨b, off, none⟩) 0 cap w (fun ad _ => by simp [storeCells]) (fun _ => rfl), _, _, k, h, K.le.refl _, hr, by simpa [goInt] using Conc.int (k := k) .i64 0, Fr.refl _ _⟩
    | cons e es => exact h.elim
  case rsl b off n sz' cap hcap =>
    split at h
    · rename_i cells hb
      obtain ⟨rfl, hle, hq⟩ := h
      obtain ⟨cs, e, g1, g2⟩ := hr.own _ _ hb
      have hcs : cells.length = cs.size := g2.1
      have hLt := hLn.take (min fs.length n)
      have htk : fs.take (min fs.length n) = fs.take n := by
        by_cases c : fs.length ≤ n
        · rw [Nat.min_eq_left c, List.take_length, List.take_of_length_le c]
        · rw [Nat.min_eq_right (by omega)]
      rw [htk] at hLt
      have hfl := hLt.flat
      have hln : (news.take (min fs.length n * sz')).length = (fs.take n).flatten.length := by have := hfl.1; simp only [List.size_toArray] at this; exact this.symm
      have hle2 : (fs.take n).flatten.length ≤ n * sz' := by
        rw [flatten_len _ hLt.2.1]
        exact Nat.mul_le_mul_right _ (by simp; omega)
      have hfit : off + (news.take (min fs.length n * sz')).length ≤ cs.size := by omega
      have h1 : ∀ u ∈ news.take (min fs.length n * sz'), u.oneCell' = true := fun u hu => hS.one u (List.mem_of_mem_take hu)
      have hst := run_storeCells_at P b off e (news.take (min fs.length n * sz')) 0 cs w g1 (by simpa using hfit) h1
      simp only [Nat.add_zero] at hst
      obtain ⟨s1, s2⟩ := hr.setRow g1 (seg_size cs _ _ hfit) hb (x := .row (br cells off (fs.take n).flatten)) ⟨_, e, setRow_heap w b cs _ e _ g1, by
        rw [seg_size _ _ _ hfit, splice_len (by omega)]; exact hcs, fun j v' y a b' => by
        rw [seg_get _ _ _ _ hfit] at a
        rw [splice_get (by omega)] at b'
        by_cases c1 : off ≤ j ∧ j < off + (fs.take n).flatten.length
        · rw [if_pos c1] at b'
          rw [if_pos (by omega)] at a
          exact hfl.2 _ v' y (by simpa using a) b'
        · rw [if_neg c1] at b'
          rw [if_neg (by omega)] at a
          exact g2.2 j v' y a b'⟩
      exact ⟨_, _, hrun (some ⟨b, off, none⟩) n cap _ (fun ad e => by cases e; exact hst) (by simp), _, _, k, hq, K.le.refl _, s1, .int _ _, s2⟩
    · exact h.elim
  case osl b i n sz' cap c full hR hcap hcc hf =>
    split at h
    · rename_i sz'' es hb
      obtain ⟨rfl, rfl, hle, hq⟩ := h
      obtain ⟨cs, e, g1, g2, g3, g4⟩ := hr.own _ _ hb
      have hLt := hLn.take (min fs.length n)
      have htk : fs.take (min fs.length n) = fs.take n := by
        by_cases c : fs.length ≤ n
        · rw [Nat.min_eq_left c, List.take_length, List.take_of_length_le c]
        · rw [Nat.min_eq_right (by omega)]
      rw [htk] at hLt
      have hm : (fs.take n).length = min fs.length n := by simp [Nat.min_comm]
      have hln : (news.take (min fs.length n * sz'')).length = min fs.length n * sz'' := by rw [hLt.1, hm]
      have hfit : i * sz'' + (news.take (min fs.length n * sz'')).length ≤ cs.size := by
        rw [hln, ← Nat.add_mul]
        refine Nat.le_trans (Nat.mul_le_mul_right _ ?_) g2
        omega
      have h1 : ∀ u ∈ news.take (min fs.length n * sz''), u.oneCell' = true := fun u hu => hS.one u (List.mem_of_mem_take hu)
      have hst := run_storeCells_at P b (i * sz'') e (news.take (min fs.length n * sz'')) 0 cs w g1 (by simpa using hfit) h1
      simp only [Nat.add_zero] at hst
      obtain ⟨s1, s2⟩ := hr.setRow g1 (seg_size cs _ _ hfit) hb (x := .arr sz'' (es.take i ++ (fs.take n ++ es.drop (i + min fs.length n)))) ⟨_, e, setRow_heap w b cs _ e _ g1, by
        rw [seg_size _ _ _ hfit]
        refine Nat.le_trans (Nat.mul_le_mul_right _ ?_) g2
        simp; omega, fun a ha => by
        rcases List.mem_append.1 ha with h' | h'
        · exact g3 a (List.mem_of_mem_take h')
        · rcases List.mem_append.1 h' with h'' | h''
          · exact hLt.2.1 a h''
          · exact g3 a (List.mem_of_mem_drop h''), fun a el j y ha hj => by
        rw [seg_get _ _ _ _ hfit]
        have hti : (es.take i).length = i := by simp; omega
        by_cases c0 : a < i
        · rw [List.getElem?_append_left (by omega), List.getElem?_take_of_lt c0] at ha
          have hj' : j < sz'' := by rw [← g3 el (List.mem_of_getElem? ha)]; exact (List.getElem?_eq_some_iff.1 hj).1
          have := flat_lt c0 hj'
          rw [if_neg (by omega)]
          exact g4 a el j y ha hj
        · rw [List.getElem?_append_right (by omega), hti] at ha
          by_cases c1 : a - i < min fs.length n
          · rw [List.getElem?_append_left (by omega)] at ha
            have hj' : j < sz'' := by rw [← hLt.2.1 el (List.mem_of_getElem? ha)]; exact (List.getElem?_eq_some_iff.1 hj).1
            have h1 := flat_lt c1 hj'
            have e1 : a * sz'' = i * sz'' + (a - i) * sz'' := by rw [← Nat.add_mul]; congr 1; omega
            rw [if_pos (by omega)]
            obtain ⟨u, hu, hcu⟩ := hLt.2.2 _ el j y ha hj
            refine ⟨u, ?_, hcu⟩
            rw [← hu]
            congr 1
            omega
          · rw [List.getElem?_append_right (by omega), hm, List.getElem?_drop] at ha
            have e0 : i + min fs.length n + (a - i - min fs.length n) = a := by omega
            rw [e0] at ha
            have e1 : (i + min fs.length n) * sz'' ≤ a * sz'' := Nat.mul_le_mul_right _ (by omega)
            rw [Nat.add_mul] at e1
            rw [if_neg (by omega)]
            exact g4 a el j y ha hj⟩
      exact ⟨_, _, hrun (some ⟨b, i * sz'', none⟩) n cap _ (fun ad e => by cases e; exact hst) (by simp), _, _, k, hq, K.le.refl _, s1, .int _ _, s2⟩
    · exact h.elim

end Go.Av

namespace Go.Av
open Go.RowKit

theorem Fr.dropOne {H : Hp} {w : World} (l : Nat) : Fr H w (upd H l none) w := ⟨rfl, rfl, rfl, Nat.le_refl _, fun _ _ _ => rfl, fun b _ h => by
  by_cases e : b = l
  · subst e; simp
  · rw [ah _ _ _ e]; exact h⟩

theorem Rel.dropOne {k : K} {H : Hp} {w : World} (h : Rel k H w) (l : Nat) : Rel k (upd H l none) w := h.drop fun b x hb => by
  by_cases e : b = l
  · subst e; simp at hb
  · rwa [ah _ _ _ e] at hb

/-! ### An owned block is taken as lasting: its names become values -/
mutual
def subV (b : Nat) (blk : Blk) : V → V
  | .osl b' i n sz full => if b' = b then match blk with
      | .arr sz' es => if sz' = sz ∧ i + n ≤ es.length then .sl sz ((es.drop i).take n) full else .junk
      | _ => .junk
    else .osl b' i n sz full
  | .ptr b' off => if b' = b then match blk with
      | .row cells => .cptr cells off
      | _ => .junk
    else .ptr b' off
  | .agg cs => .agg (subL b blk cs)
  | .tup cs => .tup (subL b blk cs)
  | .int k n => .int k n
  | .bool x => .bool x
  | .str s => .str s
  | .nilp => .nilp
  | .nils => .nils
  | .niln => .niln
  | .nilm => .nilm
  | .eptr b' i off sz => .eptr b' i off sz
  | .cptr e off => .cptr e off
  | .sl sz es full => .sl sz es full
  | .rsl b' off n sz => .rsl b' off n sz
  | .fn f a c => .fn f a c
  | .mp b' => .mp b'
  | .ifc t x => .ifc t (subV b blk x)
  | .junk => .junk
def subL (b : Nat) (blk : Blk) : List V → List V
  | [] => []
  | x :: xs => subV b blk x :: subL b blk xs
end

theorem subL_len (b : Nat) (blk : Blk) : ∀ xs : List V, (subL b blk xs).length = xs.length
  | [] => rfl
  | _ :: xs => congrArg (· + 1) (subL_len b blk xs)

theorem subL_get (b : Nat) (blk : Blk) : ∀ (xs : List V) (j : Nat), (subL b blk xs)[j]? = (xs[j]?).map (subV b blk)
  | [], j => by simp [subL]
  | x :: xs, 0 => by simp [subL]
  | x :: xs, j + 1 => by simp only [subL, List.getElem?_cons_succ]; exact subL_get b blk xs j

def lasting : Blk → Bool
  | .row _ => true
  | .arr _ _ => true
  | _ => false

theorem freeze {k : K} {H : Hp} {w : World} (hr : Rel k H w) {b : Nat} {blk : Blk} (hb : H b = some blk) (hl : lasting blk = true) :
    ∃ k', k.le k' ∧ Rel k' (upd H b none) w ∧ ∀ v x, Conc k v x → Conc k' v (subV b blk x) := by
  have hrow : ∃ cs e, w.heap[b]? = some (.cells cs e (0, 0)) := by
    have := hr.own b blk hb
    cases blk with
    | row cells => obtain ⟨cs, e, h, _⟩ := this; exact ⟨cs, e, h⟩
    | arr sz es => obtain ⟨cs, e, h, _⟩ := this; exact ⟨cs, e, h⟩
    | raw o => cases hl
    | map es c => cases hl
  obtain ⟨cs, e, hcs⟩ := hrow
  obtain ⟨h1, h2⟩ := (hr.dropOne b).putM hcs (by simp)
  refine ⟨_, h1, h2, fun v x hc => ?_⟩
  have hM : ∀ o u, cs[o]? = some u → (k.putM b cs).M b o = some u := fun o u hu => by simp [K.putM, hu]
  have hown := hr.own b blk hb
  induction hc with
  | osl b' i n sz cap c full hR hcap hc hf =>
    simp only [subV]
    split
    · rename_i eb
      subst eb
      cases blk with
      | arr sz' es =>
        simp only
        split
        · rename_i hh
          obtain ⟨rfl, hle⟩ := hh
          obtain ⟨cs', e', g1, g2, g3, g4⟩ := hown
          rw [hcs] at g1
          cases g1
          have hlen : ((es.drop i).take n).length = n := by simp; omega
          have hget : ∀ p q, p < n → q < sz' → ∃ u, cs[i * sz' + p * sz' + q]? = some u := fun p q hp hq => by
            have : i * sz' + p * sz' + q < cs.size := by
              have h3 : (i + p) * sz' + q < es.length * sz' := flat_lt (by omega) hq
              rw [Nat.add_mul] at h3
              omega
            exact ⟨_, Array.getElem?_eq_getElem this⟩
          have := Conc.sl (k := k.putM b' cs) b' (i * sz') cap sz' ((es.drop i).take n) full (fun p q => cs.getD (i * sz' + p * sz' + q) undef)
            (fun e he => g3 e (List.mem_of_mem_drop (List.mem_of_mem_take he))) (by omega) (fun h => by rw [hlen]; exact hf h)
            (fun p q hp hq => by
              rw [hlen] at hp
              obtain ⟨u, hu⟩ := hget p q hp hq
              rw [hM _ u hu, Array.getD_eq_getD_getElem?, hu]; rfl)
            (fun p e q y hp hq => by
              have hp' := (List.getElem?_eq_some_iff.1 hp).1
              rw [hlen] at hp'
              rw [List.getElem?_take, if_pos hp', List.getElem?_drop] at hp
              obtain ⟨u, hu, hcu⟩ := g4 (i + p) e q y hp hq
              rw [Nat.add_mul] at hu
              rw [Array.getD_eq_getD_getElem?, hu]
              exact hcu.mono h1)
          rw [hlen] at this
          exact this
        · exact .junk _
      | _ => exact .junk _
    · exact .osl b' i n sz cap c full (h1.r _ _ hR) hcap hc hf
  | ptr b' off =>
    simp only [subV]
    split
    · rename_i eb
      subst eb
      cases blk with
      | row cells =>
        obtain ⟨cs', e', g1, g2⟩ := hown
        rw [hcs] at g1
        cases g1
        have := Conc.cptr (k := k.putM b' cs) b' 0 off cells (fun j => cs.getD j undef)
          (fun j hj => by
            rw [g2.1] at hj
            rw [Nat.zero_add, hM j _ (Array.getElem?_eq_getElem hj), Array.getD_eq_getD_getElem?, Array.getElem?_eq_getElem hj]; rfl)
          (fun j x hx => by
            have hj : j < cs.size := by rw [← g2.1]; exact (List.getElem?_eq_some_iff.1 hx).1
            rw [Array.getD_eq_getD_getElem?, Array.getElem?_eq_getElem hj]
            exact (g2.2 j _ x (Array.getElem?_eq_getElem hj) hx).mono h1)
        rw [Nat.zero_add] at this
        exact this
      | _ => exact .junk _
    · exact .ptr b' off
  | ifc t v x _ ih => exact .ifc t v _ ih
  | agg cs' xs hl' _ ih =>
    simp only [subV]
    refine .agg _ _ (by rw [subL_len]; exact hl') (fun j v y hv hy => ?_)
    rw [subL_get, Option.map_eq_some_iff] at hy
    obtain ⟨x, hx, rfl⟩ := hy
    exact ih j v x hv hx
  | tup cs' xs hl' _ ih =>
    simp only [subV]
    refine .tup _ _ (by rw [subL_len]; exact hl') (fun j v y hv hy => ?_)
    rw [subL_get, Option.map_eq_some_iff] at hy
    obtain ⟨x, hx, rfl⟩ := hy
    exact ih j v x hv hx
  | int i n => exact .int i n
  | bool x => exact .bool x
  | str s => exact .str s
  | nilp => exact .nilp
  | eptr b' i off sz => exact .eptr b' i off sz
  | cptr b' o off e vs hM' hc' _ => exact .cptr b' o off e vs (fun j hj => h1.m _ _ _ (hM' j hj)) (fun j x hx => (hc' j x hx).mono h1)
  | nils => exact .nils
  | slnil sz full => exact .slnil sz full
  | slz a sz full => exact .slz a sz full
  | sl b' off cap sz es full vs a1 a2 a3 a4 a5 _ => exact .sl b' off cap sz es full vs a1 a2 a3 (fun i j hi hj => h1.m _ _ _ (a4 i j hi hj)) (fun i e j x p q => (a5 i e j x p q).mono h1)
  | rsl b' off n sz cap h => exact .rsl b' off n sz cap h
  | fn f a c xs ys g1 g2 g3 g4 _ _ => exact .fn f a c xs ys g1 g2 (fun j v x p q => (g3 j v x p q).mono h1) (fun j v x p q => (g4 j v x p q).mono h1)
  | niln => exact .niln
  | mp b' => exact .mp b'
  | nilm => exact .nilm
  | junk v => exact .junk v

/-- How a function ends: owned blocks may become values; others may be forgotten. -/
def sealA : List Nat → V → Hp → (V → Hp → Prop) → Prop
  | [], x, H, Q => ∃ H', (∀ b y, H' b = some y → H b = some y) ∧ Q x H'
  | b :: B, x, H, Q => ∃ blk, H b = some blk ∧ lasting blk = true ∧ sealA B (subV b blk x) (upd H b none) Q

theorem Fr.dropl {H H' : Hp} {w : World} (h : ∀ b y, H' b = some y → H b = some y) : Fr H w H' w := ⟨rfl, rfl, rfl, Nat.le_refl _, fun _ _ _ => rfl, fun b _ hn => by
  cases hh : H' b with
  | none => rfl
  | some y => rw [h b y hh] at hn; cases hn⟩

theorem sealA_sound {Q : V → Hp → Prop} : ∀ (B : List Nat) {k : K} {H : Hp} {w : World} (_ : Rel k H w) {v : Value} {x : V} (_ : Conc k v x), sealA B x H Q → OpPost k H w Q v w
  | [], k, H, w, hr, v, x, hc, ⟨H', h1, h2⟩ => ⟨x, H', k, h2, K.le.refl _, hr.drop h1, hc, Fr.dropl h1⟩
  | b :: B, k, H, w, hr, v, x, hc, ⟨blk, h1, h2, h3⟩ => by
    obtain ⟨k', g1, g2, g3⟩ := freeze hr h1 h2
    obtain ⟨y, H', k'', c1, c2, c3, c4, c5⟩ := sealA_sound B g2 (g3 v x hc) h3
    exact ⟨y, H', k'', c1, g1.trans c2, c3, c4, (Fr.dropOne b).trans c5⟩

end Go.Av

set_option linter.unusedSimpArgs false
set_option linter.unusedVariables false
namespace Go.Av
open Go.RowKit

theorem upd_id {f : Hp} {b : Nat} {x : Option Blk} (h : f b = none) : upd (upd f b x) b none = f := by
  funext j
  by_cases e : j = b
  · subst e; rw [upd_same, h]
  · rw [ah _ _ _ e, ah _ _ _ e]

/-- A box that nobody writes: an address of lasting cells. -/
theorem box_val {P : Program} {k : K} {H : Hp} {w : World} (hr : Rel k H w) {t : TypeId} {u : Value} {x : V} {xs : List V} (hx : Conc k u x) (hc : aW x = some xs) {Q : V → Hp → Prop}
    (h : Q (.cptr xs 0) H) : ∃ v w', (Instr.box t u).run P w = .ok v w' ∧ OpPost k H w Q v w' := by
  obtain ⟨v, w', h1, y, H', k', ⟨b, hb, rfl, rfl⟩, h3, h4, h5, h6⟩ := box_sound (P := P) (t := t) hr hx hc (Q := fun y H' => ∃ b, H b = none ∧ y = .ptr b 0 ∧ H' = upd H b (some (.row xs))) (fun b hb => ⟨b, hb, rfl, rfl⟩)
  obtain ⟨k2, g1, g2, g3⟩ := freeze h4 (b := b) (upd_same _ _ _) rfl
  rw [upd_id hb] at g2
  refine ⟨v, w', h1, _, H, k2, h, h3.trans g1, g2, ?_, ?_⟩
  · have := g3 _ _ h5
    simpa [subV] using this
  · have := h6.trans (Fr.dropOne (w := w') b)
    rw [upd_id hb] at this
    exact this

abbrev Ents := List (V × V × Nat)
def mapT (P : Program) (t : TypeId) : Option (TypeId × TypeId) := match P.underlying t with
  | some (.map k e) => some (k, e)
  | _ => none
theorem mapT_spec {P : Program} {t k e : TypeId} (h : mapT P t = some (k, e)) : P.underlying t = some (.map k e) := by
  unfold mapT at h
  split at h
  · rename_i heq; cases h; exact heq
  · cases h
/-- The cells of a key. -/
def keyC (P : Program) (t : TypeId) : V → Option (List V)
  | .agg cs => if aggEqT P t = true ∧ (litsV P t cs).isSome = true then some cs else none
  | _ => none
theorem keyC_spec {P : Program} {t : TypeId} {x : V} {cs : List V} (h : keyC P t x = some cs) : x = .agg cs ∧ aggEqT P t = true ∧ (litsV P t cs).isSome = true := by
  cases x <;> simp only [keyC, reduceCtorEq] at h
  split at h
  · rename_i hh; cases h; exact ⟨rfl, hh⟩
  · cases h
def findK (cs : List V) : Ents → Nat → Option (Nat × V × Nat)
  | [], _ => none
  | (.agg ds, v, n) :: r, i => if eqC cs ds = true then some (i, v, n) else findK cs r (i + 1)
  | _ :: r, i => findK cs r (i + 1)
/-- The entries of a map, in memory. -/
def EntR (k : K) (ms : List MapEntry) (es : Ents) : Prop := es.length = ms.length ∧ ∀ (j : Nat) m x, ms[j]? = some m → es[j]? = some x → Conc k m.key x.1 ∧ Conc k m.val x.2.1 ∧ m.born = x.2.2
def entsOk (P : Program) (t : TypeId) (es : Ents) : Prop := ∀ e ∈ es, (keyC P t e.1).isSome = true

theorem conc_agg {k : K} {v : Value} {cs : List V} (h : Conc k v (.agg cs)) : ∃ vs, v = .agg vs ∧ ConcL k vs cs := by
  cases h with
  | agg ds _ hl hc => exact ⟨ds, rfl, hl, hc⟩

theorem hwide_of {P : Program} {t : TypeId} (h : aggEqT P t = true) : (match P.underlying t with | some (.array _ _) | some (.struct _) => true | _ => false) = true := by
  simp only [aggEqT, Bool.and_eq_true] at h
  exact h.2

/-- What a key is beneath. -/
theorem key_lits {P : Program} {k : K} {t : TypeId} {v : Value} {x : V} {cs : List V} (hx : Conc k v x) (h : keyC P t x = some cs) :
    ∃ (vs : Array Value) (l : List Lit), v = .agg vs ∧ vs.toList = l.map Lit.toCell ∧ P.keyLits 20 t vs.toList = some l ∧ (Value.agg vs).formed P t = true := by
  obtain ⟨rfl, ht, hl⟩ := keyC_spec h
  obtain ⟨vs, rfl, hc⟩ := conc_agg hx
  have hwide := hwide_of ht
  simp only [aggEqT, Bool.and_eq_true] at ht
  unfold litsV at hl
  cases ex : bK cs with
  | none => simp [ex] at hl
  | some us =>
    simp only [ex, Option.bind_some, Option.isSome_iff_exists] at hl
    obtain ⟨l, hl⟩ := hl
    have e1 : vs.toList = us := toVals_conc cs _ us (by simp [hc.1]) (fun j v x a b => hc.2 j v x (by simpa using a) b) ex
    have c1 := cells_of_lits 20 t ht.1.1.2 20 us l hl
    refine ⟨vs, l, rfl, by rw [e1, c1], by rw [e1]; exact hl, ?_⟩
    have := keyLits_len hwide hl
    rw [← e1, Array.length_toList] at this
    cases hu : P.underlying t with
    | none => simp [hu] at hwide
    | some u => rw [hu] at hwide; cases u <;> simp_all [Value.formed]

theorem key_check {P : Program} {k : K} {t : TypeId} {v : Value} {x : V} {cs : List V} (hx : Conc k v x) (h : keyC P t x = some cs) (em : Bool) (w : World) : (Instr.checkKey em 10000 t v).run P w = .ok () w := by
  obtain ⟨vs, l, rfl, h1, h2, h3⟩ := key_lits hx h
  obtain ⟨_, ht, _⟩ := keyC_spec h
  simp only [aggEqT, Bool.and_eq_true] at ht
  exact run_checkKey_deep em 9980 20 t ht.1.1.1 w 20 (.agg vs) l h3 h2

theorem key_stays {P : Program} {k : K} {t : TypeId} {v : Value} {x : V} {cs : List V} (hx : Conc k v x) (h : keyC P t x = some cs) (w : World) : (Instr.keyThatStays v v).run P w = .ok v w := by
  obtain ⟨vs, l, rfl, h1, h2, h3⟩ := key_lits hx h
  have hwf := keyLits_wf h2
  have hs : Instr.sameBits 10000 (.agg vs) (.agg vs) = true := by
    show Instr.sameBits (9999 + 1) (.agg vs) (.agg vs) = true
    simp only [Instr.sameBits, beq_self_eq_true, Bool.true_and, List.all_eq_true]
    intro p hp
    rw [h1] at hp
    obtain ⟨i, hi, e⟩ := List.getElem_of_mem hp
    rw [List.getElem_zip] at e
    rw [← e]
    simp only [List.getElem_map]
    exact sameBits_toCell (hwf _ (List.getElem_mem _)) 9999
  simp [Instr.keyThatStays, hs]

theorem key_eq {P : Program} {k : K} {t : TypeId} {v u : Value} {x y : V} {cs ds : List V} (hx : Conc k v x) (hy : Conc k u y) (h : keyC P t x = some cs) (g : keyC P t y = some ds) (w : World) : (Op.equal t v u).run P w = .ok (eqC cs ds) w := by
  obtain ⟨rfl, ht, hl⟩ := keyC_spec h
  obtain ⟨rfl, _, gl⟩ := keyC_spec g
  obtain ⟨vs, rfl, hc⟩ := conc_agg hx
  obtain ⟨us, rfl, gc⟩ := conc_agg hy
  exact aggEq_run ht hc gc hl gl

theorem key_same {P : Program} {k : K} {t : TypeId} {v u : Value} {x y : V} {cs ds : List V} (hx : Conc k v x) (hy : Conc k u y) (h : keyC P t x = some cs) (g : keyC P t y = some ds) (he : eqC cs ds = true) : v = u := by
  obtain ⟨rfl, _, hl⟩ := keyC_spec h
  obtain ⟨rfl, _, gl⟩ := keyC_spec g
  obtain ⟨vs, rfl, hc⟩ := conc_agg hx
  obtain ⟨us, rfl, gc⟩ := conc_agg hy
  unfold litsV at hl gl
  cases ex : bK cs with
  | none => simp [ex] at hl
  | some a =>
    cases ey : bK ds with
    | none => simp [ey] at gl
    | some b =>
      have e1 : vs.toList = a := toVals_conc cs _ a (by simp [hc.1]) (fun j v x a b => hc.2 j v x (by simpa using a) b) ex
      have e2 : us.toList = b := toVals_conc ds _ b (by simp [gc.1]) (fun j v x a b => gc.2 j v x (by simpa using a) b) ey
      have := (eqC_iff cs ds a b ex ey).1 he
      congr 1
      apply Array.ext'
      rw [e1, e2, this]

theorem findAsking_run {P : Program} {k : K} {t : TypeId} {v : Value} {x : V} {cs : List V} (hx : Conc k v x) (h : keyC P t x = some cs) (w : World) : ∀ (ms : List MapEntry) (es : Ents) (i : Nat), EntR k ms es → entsOk P t es →
    match findK cs es i with
    | none => (Instr.findAsking t v ms i).run P w = .ok none w
    | some (j, y, n) => i ≤ j ∧ ∃ m e, ms[j - i]? = some m ∧ es[j - i]? = some (e, y, n) ∧ m.key = v ∧ (Instr.findAsking t v ms i).run P w = .ok (some (j, m.val)) w
  | [], es, i, hr, _ => by
    obtain rfl : es = [] := List.eq_nil_of_length_eq_zero hr.1
    simp [findK, Instr.findAsking]
  | m :: ms, [], i, hr, _ => by simp [EntR] at hr
  | m :: ms, (y, z, n) :: es, i, hr, hk => by
    have h0 := hr.2 0 m (y, z, n) rfl rfl
    have hy := hk (y, z, n) (by simp)
    obtain ⟨ds, hds⟩ := Option.isSome_iff_exists.1 hy
    obtain ⟨rfl, _, _⟩ := keyC_spec hds
    have he := key_eq hx h0.1 h hds w
    have hr' : EntR k ms es := ⟨by simpa using hr.1, fun j m x a b => hr.2 (j + 1) m x (by simpa using a) (by simpa using b)⟩
    have hk' : entsOk P t es := fun e he => hk e (List.mem_cons_of_mem _ he)
    have ih := findAsking_run hx h w ms es (i + 1) hr' hk'
    simp only [findK]
    by_cases hc : eqC cs ds = true
    · rw [if_pos hc]
      rw [hc] at he
      exact ⟨Nat.le_refl _, m, .agg ds, by simp, by simp, (key_same hx h0.1 h hds hc).symm, by simp [Instr.findAsking, he]⟩
    · rw [if_neg hc]
      have hf : eqC cs ds = false := by simpa using hc
      rw [hf] at he
      cases hfk : findK cs es (i + 1) with
      | none =>
        rw [hfk] at ih
        simp [Instr.findAsking, he, ih]
      | some r =>
        obtain ⟨j, y, n'⟩ := r
        rw [hfk] at ih
        obtain ⟨g1, m', e', g2, g3, g4, g5⟩ := ih
        refine ⟨by omega, m', e', ?_, ?_, g4, by simp [Instr.findAsking, he, g5]⟩
        · rw [show j - i = (j - (i + 1)) + 1 by omega]; simpa using g2
        · rw [show j - i = (j - (i + 1)) + 1 by omega]; simpa using g3

theorem findKey_run {P : Program} {k : K} {t : TypeId} {v : Value} {x : V} {cs : List V} (hx : Conc k v x) (h : keyC P t x = some cs) (w : World) {ms : List MapEntry} {es : Ents} (hr : EntR k ms es) (hk : entsOk P t es) :
    match findK cs es 0 with
    | none => (Instr.findKey t v ms).run P w = .ok none w
    | some (j, y, n) => ∃ m e, ms[j]? = some m ∧ es[j]? = some (e, y, n) ∧ m.key = v ∧ (Instr.findKey t v ms).run P w = .ok (some (j, m.val)) w := by
  have := findAsking_run hx h w ms es 0 hr hk
  rw [run_findKey_eq w (hwide_of (keyC_spec h).2.1)]
  split
  · rename_i heq; rw [heq] at this; exact this
  · rename_i j y n heq
    rw [heq] at this
    simpa using this.2

/-- The zero of a type. -/
def zero1 (P : Program) (t : TypeId) : Option V := (P.info? t).bind fun i => i.zero.map bF
theorem zero1_run {P : Program} {k : K} {t : TypeId} {z : V} (h : zero1 P t = some z) (w : World) : ∃ v, (zeroValue t).run P w = .ok v w ∧ Conc k v z := by
  simp only [zero1, Option.bind_eq_some_iff, Option.map_eq_some_iff] at h
  obtain ⟨i, hi, v, hv, rfl⟩ := h
  exact ⟨v, run_zero hi hv, ofVal_conc k v⟩

def found (ok : Bool) (z : V) : Option (Nat × V × Nat) → V
  | some (_, y, _) => if ok then .tup [y, .bool true] else y
  | none => if ok then .tup [z, .bool false] else z
def wpLook (P : Program) (H : Hp) (t : TypeId) (x key : V) (ok : Bool) (Q : V → Hp → Prop) : Prop :=
  ∃ kt et cs z, mapT P t = some (kt, et) ∧ keyC P kt key = some cs ∧ zero1 P et = some z ∧
    ((x = .nilm ∧ Q (found ok z none) H) ∨ ∃ b es c, x = .mp b ∧ H b = some (.map es c) ∧ entsOk P kt es ∧ Q (found ok z (findK cs es 0)) H)
def wpMapPut (P : Program) (H : Hp) (t : TypeId) (m key x : V) (Q : V → Hp → Prop) : Prop :=
  ∃ kt et cs b es c, mapT P t = some (kt, et) ∧ keyC P kt key = some cs ∧ m = .mp b ∧ H b = some (.map es c) ∧ entsOk P kt es ∧
    match findK cs es 0 with
    | some (j, _, n) => Q .junk (upd H b (some (.map (es.set j (key, x, n)) c)))
    | none => Q .junk (upd H b (some (.map (es ++ [(key, x, c)]) (c + 1))))
def wpEntry (P : Program) (H : Hp) (t : TypeId) (m key : V) (Q : V → Hp → Prop) : Prop :=
  ∃ kt et cs z b es c, mapT P t = some (kt, et) ∧ keyC P kt key = some cs ∧ zero1 P et = some z ∧ m = .mp b ∧ H b = some (.map es c) ∧ entsOk P kt es ∧
    match findK cs es 0 with
    | some (_, y, n) => Q (.tup [y, .int .i64 (n : Int)]) (upd H b (some (.map es c)))
    | none => Q (.tup [z, .int .i64 (c : Int)]) (upd H b (some (.map (es ++ [(key, z, c)]) (c + 1))))
def wpEStore (H : Hp) (m st x : V) (Q : V → Hp → Prop) : Prop :=
  ∃ b es c n i, m = .mp b ∧ H b = some (.map es c) ∧ st = .int .i64 n ∧ es.findIdx? (fun e => (e.2.2 : Int) == n) = some i ∧ Q .junk (upd H b (some (.map (es.modify i fun e => (e.1, x, e.2.2)) c)))
def wpRange (P : Program) (H : Hp) (t : TypeId) (x : V) (Q : V → Hp → Prop) : Prop :=
  (mapT P t).isSome = true ∧ ∃ b es c, x = .mp b ∧ H b = some (.map es c) ∧ ∀ r, H r = none → Q (.ptr r 0) (upd H r (some (.raw (.mapIter (some b) c #[] c))))
def wpNext (H : Hp) (it : V) (Q : V → Hp → Prop) : Prop :=
  ∃ r b since seen c0 es c, it = .ptr r 0 ∧ H r = some (.raw (.mapIter (some b) since seen c0)) ∧ H b = some (.map es c) ∧ (∀ e ∈ es, e.2.2 < since) ∧ since ≤ c0 ∧
    ((∀ e ∈ es, seen.contains e.2.2 = true) → Q (.tup [.bool false]) H) ∧
    ∀ e ∈ es, seen.contains e.2.2 = false → Q (.tup [.bool true, e.1, e.2.1]) (upd H r (some (.raw (.mapIter (some b) since (seen.push e.2.2) c))))
def wpCur (H : Hp) (it : V) (Q : V → Hp → Prop) : Prop :=
  ∃ (r b since : Nat) (seen : Array Nat) (es : Ents) (c : Nat) (e : V × V × Nat), it = .ptr r 0 ∧ H r = some (.raw (.mapIter (some b) since (seen.push e.2.2) c)) ∧ H b = some (.map es c) ∧ e ∈ es ∧ (es.map (·.2.2)).Nodup ∧ Q (.tup [e.1, e.2.1]) H

theorem Rel.setMap {k : K} {H : Hp} {w : World} (hr : Rel k H w) {l : Nat} {es es' : Ents} {c c' : Nat} (hl : H l = some (.map es c)) {ms : Array MapEntry} (hm : EntR k ms.toList es') :
    Rel k (upd H l (some (.map es' c'))) (w.putObj l (.map ms c')) ∧ Fr H w (upd H l (some (.map es' c'))) (w.putObj l (.map ms c')) := by
  have hlt := hr.lt hl
  obtain ⟨ms0, hraw, _⟩ := hr.own l _ hl
  refine ⟨⟨fun b o₁ v hm => ?_, fun b c hR => ?_, fun b x hb => ?_⟩, ⟨rfl, rfl, rfl, by simp, fun b hb hn => ?_, fun b hb hn => ?_⟩⟩
  · obtain ⟨h1, h2⟩ := hr.imm b o₁ v hm
    have hne : b ≠ l := fun e => by subst e; rw [h2] at hl; cases hl
    exact ⟨by rw [cell?_of_heap (World.putObj_heap_other hne)]; exact h1, by rw [ah _ _ _ hne]; exact h2⟩
  · obtain ⟨cs, e, fr, h1, h2⟩ := hr.rows b c hR
    have hne : b ≠ l := fun e' => by subst e'; rw [h1] at hraw; cases hraw
    exact ⟨cs, e, fr, by rw [World.putObj_heap_other hne]; exact h1, h2⟩
  · by_cases e : b = l
    · subst e
      rw [upd_same] at hb
      cases hb
      exact ⟨ms, World.putObj_heap_same hlt, by simpa using hm.1, fun j m x a b => hm.2 j m x (by simpa using a) b⟩
    · rw [ah _ _ _ e] at hb
      exact (hr.own b x hb).mono (K.le.refl _) (World.putObj_heap_other e)
  · have hne : b ≠ l := fun e => by subst e; rw [hn] at hl; cases hl
    exact World.putObj_heap_other hne
  · have hne : b ≠ l := fun e => by subst e; rw [hn] at hl; cases hl
    rw [ah _ _ _ hne]; exact hn

theorem run_getObj {P : Program} {w : World} {b : Nat} {o : Obj} (h : w.heap[b]? = some o) (hn : ∀ cs e fr, o ≠ .cells cs e fr) : (getObj b).run P w = .ok o w := by
  unfold getObj
  cases o <;> first | (simp [Sem.run, h]; done) | exact absurd rfl (hn _ _ _)
theorem run_setObj {P : Program} {w : World} {b : Nat} {o o' : Obj} (h : w.heap[b]? = some o) (hn : ∀ cs e fr, o ≠ .cells cs e fr) : (setObj b o').run P w = .ok () (w.putObj b o') := by
  unfold setObj World.putObj
  cases o <;> first | (simp [Sem.run, h]; done) | exact absurd rfl (hn _ _ _)

theorem own_map {k : K} {H : Hp} {w : World} (hr : Rel k H w) {b : Nat} {es : Ents} {c : Nat} (hb : H b = some (.map es c)) : ∃ ms : Array MapEntry, w.heap[b]? = some (.map ms c) ∧ EntR k ms.toList es := by
  obtain ⟨ms, h1, h2, h3⟩ := hr.own b _ hb
  exact ⟨ms, h1, by simpa using h2, fun j m x a b => h3 j m x (by simpa using a) b⟩

theorem makeMap_sound {P : Program} {k : K} {H : Hp} {w : World} (hr : Rel k H w) {t : TypeId} {Q : V → Hp → Prop} (h : ∀ b, H b = none → Q (.mp b) (upd H b (some (.map [] 0)))) :
    ∃ v w', (Instr.makeMap t none).run P w = .ok v w' ∧ OpPost k H w Q v w' :=
  ⟨.map (some w.heap.size), w.alloc (.map #[] 0), rfl, .mp w.heap.size, _, k, h _ hr.fresh, K.le.refl _, hr.alloc_own _ _ ⟨#[], bW w _, rfl, fun j m x a => by simp at a⟩, .mp _, Fr.alloc_own _ _⟩

theorem Rel.setRaw0 {k : K} {H : Hp} {w : World} (hr : Rel k H w) {l : Nat} {o o' : Obj} (hl : H l = some (.raw o)) (ho : ∀ cs e fr, o' ≠ .cells cs e fr) :
    Rel k (upd H l (some (.raw o'))) (w.putObj l o') ∧ Fr H w (upd H l (some (.raw o'))) (w.putObj l o') := by
  have hlt := hr.lt hl
  have hraw : w.heap[l]? = some o ∧ ∀ cs e fr, o ≠ .cells cs e fr := hr.own l _ hl
  refine ⟨⟨fun b o₁ v hm => ?_, fun b c hR => ?_, fun b x hb => ?_⟩, ⟨rfl, rfl, rfl, by simp, fun b hb hn => ?_, fun b hb hn => ?_⟩⟩
  · obtain ⟨h1, h2⟩ := hr.imm b o₁ v hm
    have hne : b ≠ l := fun e => by subst e; rw [h2] at hl; cases hl
    exact ⟨by rw [cell?_of_heap (World.putObj_heap_other hne)]; exact h1, by rw [ah _ _ _ hne]; exact h2⟩
  · obtain ⟨cs, e, fr, h1, h2⟩ := hr.rows b c hR
    have hne : b ≠ l := fun e' => by subst e'; rw [h1] at hraw; cases hraw.1; exact hraw.2 _ _ _ rfl
    exact ⟨cs, e, fr, by rw [World.putObj_heap_other hne]; exact h1, h2⟩
  · by_cases e : b = l
    · subst e
      rw [upd_same] at hb
      cases hb
      exact ⟨World.putObj_heap_same hlt, ho⟩
    · rw [ah _ _ _ e] at hb
      exact (hr.own b x hb).mono (K.le.refl _) (World.putObj_heap_other e)
  · have hne : b ≠ l := fun e => by subst e; rw [hn] at hl; cases hl
    exact World.putObj_heap_other hne
  · have hne : b ≠ l := fun e => by subst e; rw [hn] at hl; cases hl
    rw [ah _ _ _ hne]; exact hn

theorem OpPost.pure0 {k : K} {H : Hp} {w : World} (hr : Rel k H w) {Q : V → Hp → Prop} {v : Value} {x : V} (hc : Conc k v x) (h : Q x H) : OpPost k H w Q v w := ⟨x, H, k, h, K.le.refl _, hr, hc, Fr.refl _ _⟩

theorem Conc.two {k : K} {a b : Value} {x y : V} (h : Conc k a x) (g : Conc k b y) : Conc k (.tuple #[a, b]) (.tup [x, y]) :=
  .tup _ _ rfl fun j v z hj hz => by
    match j with
    | 0 => simp at hj hz; subst hj; subst hz; exact h
    | 1 => simp at hj hz; subst hj; subst hz; exact g
    | j + 2 => simp at hj

theorem found_conc {k : K} {ok : Bool} {v : Value} {z y : V} {j n : Nat} (h : Conc k v y) : Conc k (if ok then .tuple #[v, .bool true] else v) (found ok z (some (j, y, n))) := by
  cases ok
  · exact h
  · exact .two h (.bool true)
theorem found_none {k : K} {ok : Bool} {v : Value} {z : V} (h : Conc k v z) : Conc k (if ok then .tuple #[v, .bool false] else v) (found ok z none) := by
  cases ok
  · exact h
  · exact .two h (.bool false)

theorem look_sound {P : Program} {k : K} {H : Hp} {w : World} (hr : Rel k H w) {t : TypeId} {v u : Value} {x key : V} {ok : Bool} (hx : Conc k v x) (hk : Conc k u key) {Q : V → Hp → Prop} (h : wpLook P H t x key ok Q) :
    ∃ r w', (Instr.lookup t v u ok).run P w = .ok r w' ∧ OpPost k H w Q r w' := by
  obtain ⟨kt, et, cs, z, h1, h2, h3, h⟩ := h
  have ht := mapT_spec h1
  obtain ⟨zv, hz, hzc⟩ := zero1_run (k := k) h3 w
  rcases h with ⟨rfl, hQ⟩ | ⟨b, es, c, rfl, hb, hes, hQ⟩
  · cases hx
    have hc := key_check (P := P) hk h2 true w
    have hf := findKey_run hk h2 w (ms := []) (es := []) ⟨rfl, fun j m x a => by simp at a⟩ (fun e he => by cases he)
    simp only [findK] at hf
    refine ⟨if ok then .tuple #[zv, .bool false] else zv, w, ?_, OpPost.pure0 hr (found_none hzc) hQ⟩
    cases ok <;> simp [Instr.lookup, run_underlying ht, hc, hf, hz]
  · cases hx
    obtain ⟨ms, hm, her⟩ := own_map hr hb
    have hc := key_check (P := P) hk h2 ms.isEmpty w
    have hf := findKey_run hk h2 w her hes
    have hg := run_getObj (P := P) hm (fun _ _ _ e => by cases e)
    cases hfk : findK cs es 0 with
    | none =>
      rw [hfk] at hf hQ
      refine ⟨if ok then .tuple #[zv, .bool false] else zv, w, ?_, OpPost.pure0 hr (found_none hzc) hQ⟩
      cases ok <;> simp [Instr.lookup, run_underlying ht, hg, hc, hf, hz]
    | some r =>
      obtain ⟨j, y, n⟩ := r
      rw [hfk] at hf hQ
      obtain ⟨m, e, g1, g2, g3, g4⟩ := hf
      refine ⟨if ok then .tuple #[m.val, .bool true] else m.val, w, ?_, OpPost.pure0 hr (found_conc (her.2 j m _ g1 g2).2.1) hQ⟩
      cases ok <;> simp [Instr.lookup, run_underlying ht, hg, hc, g4]

theorem EntR.push {k : K} {ms : Array MapEntry} {es : Ents} (h : EntR k ms.toList es) {m : MapEntry} {x : V × V × Nat} (hm : Conc k m.key x.1 ∧ Conc k m.val x.2.1 ∧ m.born = x.2.2) : EntR k (ms.push m).toList (es ++ [x]) := by
  refine ⟨by simp [h.1], fun j a b ha hb => ?_⟩
  rw [Array.toList_push] at ha
  by_cases hj : j < es.length
  · rw [List.getElem?_append_left (by rw [← h.1]; exact hj)] at ha
    rw [List.getElem?_append_left hj] at hb
    exact h.2 j a b ha hb
  · rw [List.getElem?_append_right (by rw [← h.1]; omega)] at ha
    rw [List.getElem?_append_right (by omega)] at hb
    rw [← h.1] at ha
    have : j - es.length = 0 := by
      rcases Nat.eq_zero_or_pos (j - es.length) with e | e
      · exact e
      · rw [List.getElem?_eq_none (by simp; omega)] at ha; cases ha
    rw [this] at ha hb
    simp at ha hb
    subst ha; subst hb
    exact hm
theorem EntR.modify {k : K} {ms : Array MapEntry} {es : Ents} (h : EntR k ms.toList es) {i : Nat} {f : MapEntry → MapEntry} {g : V × V × Nat → V × V × Nat}
    (hfg : ∀ m x, ms[i]? = some m → es[i]? = some x → Conc k (f m).key (g x).1 ∧ Conc k (f m).val (g x).2.1 ∧ (f m).born = (g x).2.2) : EntR k (ms.modify i f).toList (es.modify i g) := by
  refine ⟨by simp [h.1], fun j a b ha hb => ?_⟩
  rw [Array.toList_modify, List.getElem?_modify] at ha
  rw [List.getElem?_modify] at hb
  simp only [Option.map_eq_map, Option.map_eq_some_iff] at ha hb
  obtain ⟨a', ha, rfl⟩ := ha
  obtain ⟨b', hb, rfl⟩ := hb
  by_cases e : i = j
  · subst e
    simp only [if_true]
    exact hfg a' b' (by simpa using ha) hb
  · simp only [if_neg e]
    exact h.2 j a' b' ha hb

theorem entry_sound {P : Program} {k : K} {H : Hp} {w : World} (hr : Rel k H w) {t : TypeId} {v u : Value} {x key : V} (hx : Conc k v x) (hk : Conc k u key) {Q : V → Hp → Prop} (h : wpEntry P H t x key Q) :
    ∃ r w', (Instr.mapEntry t v u).run P w = .ok r w' ∧ OpPost k H w Q r w' := by
  obtain ⟨kt, et, cs, z, b, es, c, h1, h2, h3, rfl, hb, hes, hQ⟩ := h
  have ht := mapT_spec h1
  obtain ⟨zv, hz, hzc⟩ := zero1_run (k := k) h3 w
  cases hx
  obtain ⟨ms, hm, her⟩ := own_map hr hb
  have hc := key_check (P := P) hk h2 false w
  have hf := findKey_run hk h2 w her hes
  have hst := key_stays (P := P) hk h2 w
  have hg := run_getObj (P := P) hm (fun _ _ _ e => by cases e)
  have hs : ∀ o', (setObj b o').run P w = .ok () (w.putObj b o') := fun o' => run_setObj (P := P) hm (fun _ _ _ e => by cases e)
  cases hfk : findK cs es 0 with
  | none =>
    rw [hfk] at hf hQ
    obtain ⟨r1, r2⟩ := Rel.setMap (c' := c + 1) hr hb (her.push (m := { key := u, val := zv, born := c }) (x := (key, z, c)) ⟨hk, hzc, rfl⟩)
    refine ⟨.tuple #[zv, goInt c], _, ?_, _, _, k, hQ, K.le.refl _, r1, .two hzc (.int _ _), r2⟩
    simp [Instr.mapEntry, run_underlying ht, hg, hc, hf, hz, hs]
  | some r =>
    obtain ⟨j, y, n⟩ := r
    rw [hfk] at hf hQ
    obtain ⟨m, e, g1, g2, g3, g4⟩ := hf
    subst g3
    have gg := her.2 j m _ g1 g2
    have g1' : ms[j]? = some m := by simpa using g1
    have hmod : es.modify j (fun x => x) = es := List.modify_id j es
    have her' : EntR k (ms.modify j fun e => { e with key := m.key }).toList es := by
      have := her.modify (i := j) (f := fun e => { e with key := m.key }) (g := fun x => x) fun m' x' a b => by
        rw [g1'] at a; cases a
        rw [g2] at b; cases b
        exact gg
      rwa [hmod] at this
    obtain ⟨r1, r2⟩ := Rel.setMap (c' := c) hr hb her'
    refine ⟨.tuple #[m.val, goInt m.born], _, ?_, _, _, k, hQ, K.le.refl _, r1, .two gg.2.1 (by rw [gg.2.2]; exact .int _ _), r2⟩
    simp [Instr.mapEntry, run_underlying ht, hg, hc, g4, g1', hst, hs]

theorem mapPut_sound {P : Program} {k : K} {H : Hp} {w : World} (hr : Rel k H w) {t : TypeId} {v u q : Value} {x key y : V} (hx : Conc k v x) (hk : Conc k u key) (hy : Conc k q y) {Q : V → Hp → Prop} (h : wpMapPut P H t x key y Q) :
    ∃ w', (Instr.mapUpdate t v u q).run P w = .ok () w' ∧ OpPost k H w Q undef w' := by
  obtain ⟨kt, et, cs, b, es, c, h1, h2, rfl, hb, hes, hQ⟩ := h
  have ht := mapT_spec h1
  cases hx
  obtain ⟨ms, hm, her⟩ := own_map hr hb
  have hc := key_check (P := P) hk h2 false w
  have hf := findKey_run hk h2 w her hes
  have hst := key_stays (P := P) hk h2 w
  have hg := run_getObj (P := P) hm (fun _ _ _ e => by cases e)
  have hs : ∀ o', (setObj b o').run P w = .ok () (w.putObj b o') := fun o' => run_setObj (P := P) hm (fun _ _ _ e => by cases e)
  cases hfk : findK cs es 0 with
  | none =>
    rw [hfk] at hf hQ
    obtain ⟨r1, r2⟩ := Rel.setMap (c' := c + 1) hr hb (her.push (m := { key := u, val := q, born := c }) (x := (key, y, c)) ⟨hk, hy, rfl⟩)
    refine ⟨_, ?_, _, _, k, hQ, K.le.refl _, r1, .junk _, r2⟩
    simp [Instr.mapUpdate, run_underlying ht, hg, hc, hf, hs]
  | some r =>
    obtain ⟨j, y0, n⟩ := r
    rw [hfk] at hf hQ
    obtain ⟨m, e, g1, g2, g3, g4⟩ := hf
    subst g3
    have gg := her.2 j m _ g1 g2
    have g1' : ms[j]? = some m := by simpa using g1
    have hmod : es.modify j (fun _ => (key, y, n)) = es.set j (key, y, n) := by
      apply List.ext_getElem?
      intro i
      rw [List.getElem?_modify, List.getElem?_set]
      by_cases e : j = i
      · subst e
        simp [g2, (List.getElem?_eq_some_iff.1 g2).1]
      · simp [e]
    have her' : EntR k (ms.modify j fun e => { e with key := m.key, val := q }).toList (es.set j (key, y, n)) := by
      rw [← hmod]
      refine her.modify fun m' x' a b => ?_
      rw [g1'] at a; cases a
      rw [g2] at b; cases b
      exact ⟨hk, hy, gg.2.2⟩
    obtain ⟨r1, r2⟩ := Rel.setMap (c' := c) hr hb her'
    refine ⟨_, ?_, _, _, k, hQ, K.le.refl _, r1, .junk _, r2⟩
    simp [Instr.mapUpdate, run_underlying ht, hg, hc, g4, g1', hst, hs]

theorem eStore_sound {P : Program} {k : K} {H : Hp} {w : World} (hr : Rel k H w) {t : TypeId} {v u q : Value} {x st y : V} (hx : Conc k v x) (hk : Conc k u st) (hy : Conc k q y) {Q : V → Hp → Prop} (h : wpEStore H x st y Q) :
    ∃ w', (Instr.entryStore t v u q).run P w = .ok () w' ∧ OpPost k H w Q undef w' := by
  obtain ⟨b, es, c, n, i, rfl, hb, rfl, hi, hQ⟩ := h
  cases hx
  cases hk
  obtain ⟨ms, hm, her⟩ := own_map hr hb
  have hg := run_getObj (P := P) hm (fun _ _ _ e => by cases e)
  have hs : ∀ o', (setObj b o').run P w = .ok () (w.putObj b o') := fun o' => run_setObj (P := P) hm (fun _ _ _ e => by cases e)
  have hfi : ms.findIdx? (fun e => (e.born : Int) == n) = some i := by
    rw [List.findIdx?_eq_some_iff_getElem] at hi
    rw [Array.findIdx?_eq_some_iff_getElem]
    obtain ⟨hl, h1, h2⟩ := hi
    have hl' : i < ms.size := by have := her.1; simp at this; omega
    have key : ∀ (j : Nat) (a : j < ms.size) (b : j < es.length), ms[j].born = es[j].2.2 := fun j a b => (her.2 j ms[j] es[j] (by simp [a]) (by simp [b])).2.2
    refine ⟨hl', by rw [key i hl' hl]; exact h1, fun j hj => ?_⟩
    rw [key j (by omega) (by omega)]
    exact h2 j hj
  have her' := her.modify (i := i) (f := fun e => { e with val := q }) (g := fun e => (e.1, y, e.2.2)) fun m x a b => by
    have := her.2 i m x (by simpa using a) b
    exact ⟨this.1, hy, this.2.2⟩
  obtain ⟨r1, r2⟩ := Rel.setMap (c' := c) hr hb her'
  refine ⟨_, ?_, _, _, k, hQ, K.le.refl _, r1, .junk _, r2⟩
  simp [Instr.entryStore, hg, asInt, asIntOf, hfi, hs]

theorem range_sound {P : Program} {k : K} {H : Hp} {w : World} (hr : Rel k H w) {t : TypeId} {v : Value} {x : V} (hx : Conc k v x) {Q : V → Hp → Prop} (h : wpRange P H t x Q) :
    ∃ r w', (Instr.range t v).run P w = .ok r w' ∧ OpPost k H w Q r w' := by
  obtain ⟨ht, b, es, c, rfl, hb, hQ⟩ := h
  obtain ⟨⟨kt, et⟩, ht⟩ := Option.isSome_iff_exists.1 ht
  have ht := mapT_spec ht
  cases hx
  obtain ⟨ms, hm, her⟩ := own_map hr hb
  have hg := run_getObj (P := P) hm (fun _ _ _ e => by cases e)
  refine ⟨.pointer (some ⟨w.heap.size, 0, none⟩), w.alloc (.mapIter (some b) c #[] c), ?_, .ptr w.heap.size 0, _, k, hQ _ hr.fresh, K.le.refl _, ?_, .ptr _ _, Fr.alloc_own _ _⟩
  · simp only [Instr.range, Sem.run_bind, run_underlying ht, Result.andThen_ok, hg]
    rfl
  · exact hr.alloc_own _ _ ⟨bW w _, fun _ _ _ e => by cases e⟩

theorem next_sound {P : Program} {k : K} {H : Hp} {w : World} (hr : Rel k H w) {ty : TypeId} {v : Value} {x : V} (hx : Conc k v x) {Q : V → Hp → Prop} (h : wpNext H x Q) :
    ∃ r w', (Instr.next v false ty).run P w = .ok r w' ∧ OpPost k H w Q r w' := by
  obtain ⟨r, b, since, seen, c0, es, c, rfl, hH, hb, hold, hsc, hQ1, hQ2⟩ := h
  cases hx
  obtain ⟨ms, hm, her⟩ := own_map hr hb
  obtain ⟨hraw, hne⟩ := hr.own r _ hH
  have hold' : ∀ m ∈ ms.toList, m.born < since := fun m hm => by
    obtain ⟨j, hj, rfl⟩ := List.getElem_of_mem hm
    have hj' : j < es.length := by have := her.1; omega
    rw [(her.2 j _ es[j] (List.getElem?_eq_getElem hj) (List.getElem?_eq_getElem hj')).2.2]
    exact hold _ (List.getElem_mem hj')
  rcases run_next_at (P := P) w ty r b since c0 seen ms c hraw hm hold' hsc with ⟨h0, hrun⟩ | ⟨m, hmem, w1, hw1, hrun⟩
  · refine ⟨_, w, hrun, OpPost.pure0 hr (.tup _ _ rfl fun j v z hj hz => ?_) (hQ1 fun e he => ?_)⟩
    · match j with
      | 0 => simp at hj hz; subst hj; subst hz; exact .bool _
      | j + 1 => simp at hj
    · obtain ⟨j, hj, rfl⟩ := List.getElem_of_mem he
      have hj' : j < ms.toList.length := by have := her.1; omega
      have hbo := (her.2 j _ es[j] (List.getElem?_eq_getElem hj') (List.getElem?_eq_getElem hj)).2.2
      rw [← hbo]
      have hem : leftOf ms seen = #[] := Array.eq_empty_of_size_eq_zero h0
      have := Array.filter_eq_empty_iff.1 hem (ms.toList[j]) (by simp)
      simpa using this
  · have hmem' : m ∈ ms.toList ∧ seen.contains m.born = false := by
      unfold leftOf at hmem
      simp at hmem
      exact ⟨by simpa using hmem.1, by simp [hmem.2]⟩
    obtain ⟨hm1, hm2⟩ := hmem'
    obtain ⟨j, hj, rfl⟩ := List.getElem_of_mem hm1
    have hj' : j < es.length := by have := her.1; omega
    have hc := her.2 j _ es[j] (List.getElem?_eq_getElem hj) (List.getElem?_eq_getElem hj')
    have hq := hQ2 es[j] (List.getElem_mem hj') (by rw [← hc.2.2]; exact hm2)
    have hr1 : Rel k H w1 ∧ Fr H w H w1 := by
      rcases hw1 with rfl | rfl
      · exact ⟨hr, Fr.refl _ _⟩
      · exact ⟨hr.heap rfl, ⟨rfl, rfl, rfl, Nat.le_refl _, fun _ _ _ => rfl, fun _ _ h => h⟩⟩
    obtain ⟨r1, r2⟩ := Rel.setRaw0 hr1.1 hH (o' := .mapIter (some b) since (seen.push ms.toList[j].born) c) (fun _ _ _ e => by cases e)
    refine ⟨_, _, hrun, _, _, k, hq, K.le.refl _, by rw [← hc.2.2]; exact r1, .tup _ _ rfl fun i v z hi hz => ?_, by rw [← hc.2.2]; exact hr1.2.trans r2⟩
    match i with
    | 0 => simp at hi hz; subst hi; subst hz; exact .bool _
    | 1 => simp at hi hz; subst hi; subst hz; exact hc.1
    | 2 => simp at hi hz; subst hi; subst hz; exact hc.2.1
    | i + 3 => simp at hi

theorem cur_sound {P : Program} {k : K} {H : Hp} {w : World} (hr : Rel k H w) {v : Value} {x : V} (hx : Conc k v x) {Q : V → Hp → Prop} (h : wpCur H x Q) :
    ∃ r w', (Instr.entry v).run P w = .ok r w' ∧ OpPost k H w Q r w' := by
  obtain ⟨r, b, since, seen, es, c, e, rfl, hH, hb, he, hnd, hQ⟩ := h
  cases hx
  obtain ⟨ms, hm, her⟩ := own_map hr hb
  obtain ⟨hraw, hne⟩ := hr.own r _ hH
  obtain ⟨j, hj, rfl⟩ := List.getElem_of_mem he
  have hj' : j < ms.toList.length := by have := her.1; omega
  have hc := her.2 j _ es[j] (List.getElem?_eq_getElem hj') (List.getElem?_eq_getElem hj)
  have hnd' : (ms.toList.map (·.born)).Nodup := by
    have : ms.toList.map (·.born) = es.map (·.2.2) := by
      apply List.ext_getElem (by simp [her.1])
      intro i h1 h2
      simp only [List.getElem_map]
      exact (her.2 i _ (es[i]'(by simpa using h2)) (List.getElem?_eq_getElem (by simpa using h1)) (List.getElem?_eq_getElem (by simpa using h2))).2.2
    rw [this]; exact hnd
  refine ⟨_, w, run_entry_at (P := P) w r b since seen ms c ms.toList[j] (by rw [hc.2.2]; exact hraw) hm (List.getElem_mem hj') hnd', OpPost.pure0 hr (.two hc.1 hc.2.1) hQ⟩
end Go.Av

namespace Go.Av
open Go.RowKit

abbrev Spec0 := List V → Hp → (V → Hp → Prop) → Prop
abbrev aC := Nat → Spec0
abbrev Spec := aC → Spec0

/-- The fence in which all this goes on: everything is let in. -/
def FR (ro : Option Nat) : Fence := { Fence.wide with round := ro }

def YSound (P : Program) (k₀ : K) (Y : aC) : Prop := ∀ l args H Q, Y l args H Q → ∀ k w cargs, k₀.le k → Rel k H w → ConcL k cargs args →
  ∃ f tmps assign body, (Instr.yield l cargs).run P w = .ok (.round l f tmps assign body) w ∧ RoundIn Fence.wide 0 P l f tmps assign body w fun e w' => ∃ v, e = .returned v ∧ OpPost k H w Q v w'

/-- **WHAT A SPECIFICATION OF A FUNCTION SAYS.** -/
def Sound (P : Program) (g : FuncId) (s : Spec) : Prop := ∀ Y args H Q, s Y args H Q → ∀ k w cargs, YSound P k Y → Rel k H w → ConcL k cargs args →
  (∃ v w', (callFunc g cargs).run P w = .ok (.value v) w' ∧ OpPost k H w Q v w') ∨
  ((callFunc g cargs).run P w = .ok (.enter g cargs) w ∧ CallsIn Fence.wide 0 P g cargs w fun e w' => ∃ v, e = .returned v ∧ OpPost k H w Q v w')

theorem YSound.mono {P : Program} {k k' : K} {Y : aC} (h : YSound P k Y) (hk : k.le k') : YSound P k' Y :=
  fun l args H Q hy k₁ w cargs h1 h2 h3 => h l args H Q hy k₁ w cargs (hk.trans h1) h2 h3

/-- A table of specifications. -/
def tab : List (Nat × Spec) → Nat → Spec
  | [], _ => fun _ _ _ _ => False
  | (h, s) :: r, g => if g = h then s else tab r g

def TSound (P : Program) (S : Nat → Spec) : Prop := ∀ g, Sound P g (S g)

theorem ap {P : Program} : ∀ (l : List (Nat × Spec)), (∀ p ∈ l, Sound P p.1 p.2) → TSound P (tab l)
  | [], _ => fun _ _ _ _ _ h => h.elim
  | (h, s) :: r, hl => fun g => by
    unfold tab
    split
    · rename_i e; subst e; exact hl (g, s) (by simp)
    · exact ap r (fun p hp => hl p (by simp [hp])) g

def callV (S : Nat → Spec) (Y : aC) (f : V) (args : List V) (H : Hp) (Q : V → Hp → Prop) : Prop :=
  match f with
  | .fn (.func g) first caps => S g Y (first ++ args ++ caps) H Q
  | .fn (.yield l) first _ => ∃ Q' : V → Hp → Prop, Y l (first ++ args) H Q' ∧ ∀ x H', Q' x H' → Q x H'
  | _ => False

def byteEs (s : ByteArray) : List (List V) := s.data.toList.map fun b => [.int .u8 (b.toNat : Int)]
def intsOf : List (List V) → Option (List Int)
  | [] => some []
  | [.int .u8 n] :: es => (intsOf es).map (n :: ·)
  | _ => none
def strOf (es : List (List V)) : Option ByteArray := (intsOf es).map fun ns => ns.foldl (fun r n => r.push (UInt8.ofNat n.toNat)) ByteArray.empty

def isBytesT (P : Program) (t : TypeId) : Bool :=
  match P.underlying t with
  | some (.slice e) => (match P.underlying e with | some (.int .u8) => true | _ => false)
  | _ => false
def isStrT (P : Program) (t : TypeId) : Bool :=
  match P.underlying t with
  | some .string => true
  | _ => false
def isSliT (P : Program) (t : TypeId) : Bool :=
  match P.underlying t with
  | some (.slice _) => true
  | _ => false

def val (o : Option V) (H : Hp) (Q : V → Hp → Prop) : Prop := ∃ x, o = some x ∧ Q x H

def wpConv (P : Program) (H : Hp) (s d : TypeId) (x : V) (Q : V → Hp → Prop) : Prop :=
  match x with
  | .int i n => val (convV P s d (.int i n)) H Q
  | .str b => isStrT P s = true ∧ isBytesT P d = true ∧ Q (.sl 1 (byteEs b) false) H
  | x => isBytesT P s = true ∧ isStrT P d = true ∧ ∃ es b, ao H 1 x = some es ∧ strOf es = some b ∧ Q (.str b) H

def wpBin (P : Program) (H : Hp) (op : BinOp) (t : TypeId) (x y : V) (Q : V → Hp → Prop) : Prop :=
  match x, y with
  | .sl _ [] _, .nils => isSliT P t = true ∧ ∃ p q, eqop op true = some p ∧ eqop op false = some q ∧ Q p H ∧ Q q H
  | x, y => val (aI P op t x y) H Q

def bU (P : Program) (H : Hp) (b : Builtin) (ats : List TypeId) (args : List V) (Q : V → Hp → Prop) : Prop :=
  match b, ats, args with
  | .append, [t, tx], [d, x] => wpAppend P H t tx d x Q
  | .copy, [t, tx], [d, x] => wpCopy P H t tx d x Q
  | b, ats, args => val (builtinV P b ats args) H Q

/-- A type that is no interface. -/
def plainT (P : Program) (t : TypeId) : Bool := match P.underlying t with
  | some (.interface _) => false
  | some _ => true
  | none => false
/-- **ONE OPERATION.** -/
def wpOp (P : Program) (S : Nat → Spec) (Y : aC) (own : Bool) (H : Hp) (ev : Operand → V) (op : Op) (Q : V → Hp → Prop) : Prop :=
  match op with
  | .move x => if own then ∃ B, sealA B (ev x) H Q else val (some (ev x)) H Q
  | .assign x => if own then ∃ B, sealA B (ev x) H Q else val (some (ev x)) H Q
  | .alloc t => ∃ z, zeroT P t = some z ∧ ∀ b, H b = none → Q (.ptr b 0) (upd H b (some (.row z)))
  | .box _ x => ∃ xs, aW (ev x) = some xs ∧ if own then Q (.cptr xs 0) H else ∀ b, H b = none → Q (.ptr b 0) (upd H b (some (.row xs)))
  | .makeMap _ r => r = none ∧ ∀ b, H b = none → Q (.mp b) (upd H b (some (.map [] 0)))
  | .lookup t x k ok => wpLook P H t (ev x) (ev k) ok Q
  | .mapUpdate t m k x => wpMapPut P H t (ev m) (ev k) (ev x) Q
  | .insert t m k x => wpMapPut P H t (ev m) (ev k) (ev x) Q
  | .mapEntry t m k => wpEntry P H t (ev m) (ev k) Q
  | .entryStore _ m s x => wpEStore H (ev m) (ev s) (ev x) Q
  | .range t x => wpRange P H t (ev x) Q
  | .next it s => s = false ∧ wpNext H (ev it) Q
  | .entry it => wpCur H (ev it) Q
  | .makeInterface t x => plainT P t = true ∧ Q (.ifc t (ev x)) H
  | .typeAssert x _ t ok => ok = false ∧ plainT P t = true ∧ ∃ y, ev x = .ifc t y ∧ Q y H
  | .buildSlice t len parts => ∃ sz zs es, zeroEs P t len = some (sz, zs) ∧ len * sz ≤ 16777216 ∧ bv sz zs (parts.toList.map fun (i, x) => (i, ev x)) = some es ∧
      (if own then ∀ b, H b = none → Q (.osl b 0 len sz true) (upd H b (some (.arr sz es))) else Q (.sl sz es true) H)
  | .makeSlice t l c => ∃ n m sz es, makeLens (ev l) (ev c) = some (n, m) ∧ bT P t * m ≤ 281474976710656 ∧ zeroEs P t m = some (sz, es) ∧
      (if own then ∀ b, H b = none → Q (.osl b 0 n sz (decide (n = m))) (upd H b (some (.arr sz (es.take n)))) else Q (.sl sz (es.take n) (decide (n = m))) H)
  | .store t a x => ∃ H', storeV P H t (ev a) (ev x) = some H' ∧ Q .junk H'
  | .convert s d x => wpConv P H s d (ev x) Q
  | .binOp o t x y _ => wpBin P H o t (ev x) (ev y) Q
  | .call c => match c.callee with
    | .value f => callV S Y (ev f) (c.args.toList.map ev) H Q
    | .builtin b => bU P H b c.argTypes.toList (c.args.toList.map ev) Q
    | _ => False
  | op => val (pval P H ev op) H Q

theorem OpPost.mono {k : K} {H : Hp} {w : World} {Q Q' : V → Hp → Prop} {v : Value} {w' : World} (h : OpPost k H w Q v w') (hq : ∀ x H', Q x H' → Q' x H') : OpPost k H w Q' v w' := by
  obtain ⟨x, H', k', a, b⟩ := h
  exact ⟨x, H', k', hq _ _ a, b⟩

theorem OpPost.pure {k : K} {H : Hp} {w : World} (hr : Rel k H w) {Q : V → Hp → Prop} {v : Value} {x : V} (hc : Conc k v x) (h : Q x H) : OpPost k H w Q v w :=
  ⟨x, H, k, h, K.le.refl _, hr, hc, Fr.refl _ _⟩

theorem wpConv_sound {P : Program} {k : K} {H : Hp} {w : World} (hr : Rel k H w) {s d : TypeId} {v : Value} {x : V} (hx : Conc k v x) {Q : V → Hp → Prop} (h : wpConv P H s d x Q) :
    ∃ r w', (convert s d v).run P w = .ok r w' ∧ OpPost k H w Q r w' := by
  have str : ∀ (x : V), Conc k v x → isBytesT P s = true → isStrT P d = true → ∀ es b, ao H 1 x = some es → strOf es = some b → Q (.str b) H → ∃ r w', (convert s d v).run P w = .ok r w' ∧ OpPost k H w Q r w' := by
    intro x hx h1 h2 es b hv hb hq
    unfold isBytesT at h1
    split at h1
    · rename_i e hs
      split at h1
      · rename_i he
        unfold isStrT at h2
        split at h2
        · rename_i hd
          obtain ⟨a, c, rfl, hle, hsz, news, hl, hc, hn, hcc⟩ := view_cells hr hx (by omega) hv
          simp only [strOf, Option.map_eq_some_iff] at hb
          obtain ⟨ns, hns, rfl⟩ := hb
          have hnews : ∀ (es : List (List V)) (ns : List Int) (news : List Value), intsOf es = some ns → news.length = es.length * 1 →
              (∀ (i : Nat) e (j : Nat) y, es[i]? = some e → e[j]? = some y → ∃ u, news[i * 1 + j]? = some u ∧ Conc k u y) → news = ns.map (Value.int .u8) := by
            intro es
            induction es with
            | nil => intro ns news hi hl _; simp only [intsOf, Option.some.injEq] at hi; subst hi; exact List.eq_nil_of_length_eq_zero (by simpa using hl)
            | cons e es ih =>
              intro ns news hi hl hcc
              unfold intsOf at hi
              split at hi
              · cases ‹(e :: es) = []›
              · rename_i n es' heq
                cases heq
                simp only [Option.map_eq_some_iff] at hi
                obtain ⟨ns', hn', rfl⟩ := hi
                cases news with
                | nil => simp at hl
                | cons u us =>
                  obtain ⟨u', hu', hcu⟩ := hcc 0 [.int .u8 n] 0 (.int .u8 n) (by simp) (by simp)
                  simp only [Nat.zero_mul, Nat.add_zero, List.getElem?_cons_zero, Option.some.injEq] at hu'
                  subst hu'
                  cases hcu
                  rw [List.map_cons, ih ns' us hn' (by simpa using hl) (fun i e j y a b => by
                    obtain ⟨q, hq, hc⟩ := hcc (i + 1) e j y (by simpa using a) b
                    refine ⟨q, ?_, hc⟩
                    have e1 : (i + 1) * 1 + j = (i * 1 + j) + 1 := by omega
                    rw [e1, List.getElem?_cons_succ] at hq
                    exact hq)]
              · cases hi
          have e1 := hnews es ns news hns hl hcc
          refine ⟨.string (ns.foldl (fun r n => r.push (UInt8.ofNat n.toNat)) ByteArray.empty), w, ?_, OpPost.pure hr (.str _) hq⟩
          rw [run_convert_bytes_string w s d e a es.length c hs he hd]
          cases a with
          | none =>
            have := hn rfl
            subst this
            simp only [intsOf, Option.some.injEq] at hns
            subst hns
            rfl
          | some ad =>
            refine run_bytesToString w ad es.length c ns ?_
            rw [← e1]
            have hlen : es.length = news.length := by rw [hl, Nat.mul_one]
            rw [hlen]
            exact run_loadCells_list w ad news (fun j u hj => by
              obtain ⟨ad', e2, h2⟩ := hc j u hj
              cases e2
              exact h2)
        · cases h2
      · cases h1
    · cases h1
  unfold wpConv at h
  split at h
  · obtain ⟨z, hz, hq⟩ := h
    obtain ⟨c, h1, h2⟩ := convV_sound (w := w) hx hz
    exact ⟨c, w, h1, OpPost.pure hr h2 hq⟩
  · rename_i b
    obtain ⟨h1, h2, hq⟩ := h
    cases hx
    unfold isStrT at h1
    split at h1
    · rename_i hs
      unfold isBytesT at h2
      split at h2
      · rename_i e hd
        split at h2
        · rename_i he
          have hrun := run_bytes_of_string (P := P) w s d e b hs hd he
          obtain ⟨g1, g2, g3⟩ := alloc_val hr.drew (bytesRow b (grownCap w b.size 0 e)) e ((bytesRow b (grownCap w b.size 0 e)).size, (bytesRow b (grownCap w b.size 0 e)).size + 1)
          have hL : Laid k (bytesRow b (grownCap w b.size 0 e)) 1 (byteEs b) := by
            have hlen : (byteEs b).length = b.size := by simp only [byteEs, List.length_map, Array.length_toList]; rfl
            refine ⟨?_, fun e he => ?_, fun i e j y hi hj => ?_⟩
            · rw [hlen]; simp only [bytesRow, Array.size_append, Array.size_map, Nat.mul_one]; exact Nat.le_add_right _ _
            · obtain ⟨_, _, rfl⟩ := List.mem_map.1 he; rfl
            · simp only [byteEs, List.getElem?_map, Option.map_eq_some_iff] at hi
              obtain ⟨q, hq, rfl⟩ := hi
              cases j with
              | zero =>
                simp only [List.getElem?_cons_zero, Option.some.injEq] at hj
                subst hj
                refine ⟨.int .u8 q.toNat, ?_, .int _ _⟩
                rw [Array.getElem?_toList] at hq
                have hlt := (Array.getElem?_eq_some_iff.1 hq).1
                simp only [bytesRow, Nat.mul_one, Nat.add_zero]
                rw [Array.getElem?_append_left (by simpa using hlt), Array.getElem?_map, hq]
                rfl
              | succ j => simp at hj
          have hlen : (byteEs b).length = b.size := by simp only [byteEs, List.length_map, Array.length_toList]; rfl
          exact ⟨_, _, hrun, _, _, _, hq, g1, g2, Conc.of_laid (hL.mono g1) hlen (grownCap_ge w b.size 0 e) (fun hf => by cases hf) g3, (Fr.drew H w).trans (Fr.alloc_plain _ _ _)⟩
        · cases h2
      · cases h2
    · cases h1
  · obtain ⟨h1, h2, es, b, h3, h4, h5⟩ := h
    exact str _ hx h1 h2 es b h3 h4 h5

theorem wpBin_sound {P : Program} {k : K} {H : Hp} {w : World} (hr : Rel k H w) {op : BinOp} {t : TypeId} {v u : Value} {x y : V} (ox oy : Operand) (hx : Conc k v x) (hy : Conc k u y) {Q : V → Hp → Prop} (h : wpBin P H op t x y Q) :
    ∃ r w', ((do eqGuard op t ox oy v u; Go.binOp op t v u) : Sem Value).run P w = .ok r w' ∧ OpPost k H w Q r w' := by
  unfold wpBin at h
  split at h
  · obtain ⟨h1, p, q, hp, hq, q1, q2⟩ := h
    have hn : nkT P t = some .s := by
      unfold isSliT at h1
      unfold nkT
      split at h1
      · rename_i e he; rw [he]
      · cases h1
    have hnil : NilLike .s true u := nilLike_of hy rfl rfl
    have key : ∀ (r : Bool) z, NilLike .s r v → eqop op r = some z → Q z H → ∃ r w', ((do eqGuard op t ox oy v u; Go.binOp op t v u) : Sem Value).run P w = .ok r w' ∧ OpPost k H w Q r w' := by
      intro r z hv hz hQ
      obtain ⟨c, h1, h2⟩ := nilLike_bin (P := P) (k := k) (w := w) ox oy hn hv hnil (.inl ⟨rfl, rfl⟩) hz
      exact ⟨c, w, h1, OpPost.pure hr h2 hQ⟩
    cases hx with
    | slnil sz full => exact key true p (.s none 0 0) hp q1
    | slz a sz full => exact key false q (.s (some a) 0 0) hq q2
    | sl b off cap sz es full vs a b c d e => exact key false q (.s (some _) _ _) hq q2
  · obtain ⟨z, hz, hq⟩ := h
    obtain ⟨c, h1, h2⟩ := binV_sound (w := w) ox oy hx hy hz
    exact ⟨c, w, h1, OpPost.pure hr h2 hq⟩

theorem wpBuiltin_sound {P : Program} {k : K} {H : Hp} {w : World} (hr : Rel k H w) {b : Builtin} {ats : Array TypeId} {ty : TypeId} {cs : Array Bool} {vs : Array Value} {xs : List V} (hx : ConcL k vs xs) {Q : V → Hp → Prop}
    (h : bU P H b ats.toList xs Q) : ∃ r w', (builtin b ats ty cs vs).run P w = .ok (.value r) w' ∧ OpPost k H w Q r w' := by
  obtain ⟨atl⟩ := ats
  simp only at h
  unfold bU at h
  split at h
  · obtain ⟨vl⟩ := vs
    obtain ⟨hl, hc⟩ := hx
    match vl, hl with
    | [v, u], _ =>
      obtain ⟨r, w', h1, h2⟩ := wpAppend_sound (ty := ty) hr (hc 0 v _ (by simp) (by simp)) (hc 1 u _ (by simp) (by simp)) h
      exact ⟨r, w', by simp [builtin, h1], h2⟩
  · obtain ⟨vl⟩ := vs
    obtain ⟨hl, hc⟩ := hx
    match vl, hl with
    | [v, u], _ =>
      obtain ⟨r, w', h1, h2⟩ := wpCopy_sound (ty := ty) hr (hc 0 v _ (by simp) (by simp)) (hc 1 u _ (by simp) (by simp)) h
      exact ⟨r, w', by simp [builtin, h1], h2⟩
  · obtain ⟨z, hz, hq⟩ := h
    obtain ⟨c, h1, h2⟩ := builtinV_sound (P := P) (w := w) (ty := ty) (cs := cs) (ats := ⟨atl⟩) hx hz
    exact ⟨c, w, h1, OpPost.pure hr h2 hq⟩

theorem parts_conc {k : K} {f : Operand → Value} {g : Operand → V} (h : ∀ x, Conc k (f x) (g x)) (parts : Array (Nat × Operand)) (j : Nat) (p : Nat × Value) (q : Nat × V)
    (a : (parts.map fun (i, x) => (i, f x))[j]? = some p) (b : (parts.toList.map fun (i, x) => (i, g x))[j]? = some q) : p.1 = q.1 ∧ Conc k p.2 q.2 := by
  simp only [Array.getElem?_map, Option.map_eq_some_iff] at a
  obtain ⟨⟨i, o⟩, ho, rfl⟩ := a
  simp only [List.getElem?_map, Array.getElem?_toList, ho, Option.map_some, Option.some.injEq] at b
  subst b
  exact ⟨rfl, h o⟩

/-- What is asked of the rest. -/
def Goes (k : K) (H : Hp) (w : World) (Q : V → Hp → Prop) (o : Oper) (a : Act) (next : Act → World → Prop) : Prop := ∀ v w', OpPost k H w Q v w' → next (a.put o.dst v) w'

theorem semAt_FR (ro : Option Nat) (ρ : Operand → Value) (o : Oper) (h : ∀ c, o.op ≠ .defer c) : o.semAt (FR ro).round ρ = execOp ρ o := Oper.semAt_eq _ ρ o h

theorem ba {ro : Option Nat} {P : Program} {o : Oper} {a : Act} {w w' : World} {v : Value} {next : Act → World → Prop} {Q : Exit → Act → World → Prop} (hd : ∀ c, o.op ≠ .defer c) (h : (execOp a.eval o).run P w = .ok (.value v) w')
    (hn : next (a.put o.dst v) w') : o.wpIn (FR ro) 0 P a w next Q := by
  refine ⟨fun _ _ => trivial, ?_⟩
  rw [semAt_FR _ _ _ hd, h]
  exact hn

theorem uponIn_skip {ro : Option Nat} {P : Program} {o : Oper} {a : Act} {w w' : World} {next : Act → World → Prop} {Q : Exit → Act → World → Prop} (hd : ∀ c, o.op ≠ .defer c) (h : (execOp a.eval o).run P w = .ok .skip w')
    (hn : next (a.put o.dst undef) w') : o.wpIn (FR ro) 0 P a w next Q := by
  refine ⟨fun _ _ => trivial, ?_⟩
  rw [semAt_FR _ _ _ hd, h]
  exact hn

theorem ConcL.append {k : K} {as bs : Array Value} {xs ys : List V} (h : ConcL k as xs) (g : ConcL k bs ys) : ConcL k (as ++ bs) (xs ++ ys) := by
  obtain ⟨h1, h2⟩ := h
  obtain ⟨g1, g2⟩ := g
  refine ⟨by simp [h1, g1], fun j v x a b => ?_⟩
  by_cases c : j < as.size
  · rw [Array.getElem?_append_left c] at a
    rw [List.getElem?_append_left (by omega)] at b
    exact h2 j v x a b
  · rw [Array.getElem?_append_right (by omega)] at a
    rw [List.getElem?_append_right (by omega), h1] at b
    exact g2 _ v x a b

theorem call_sound {ro : Option Nat} {P : Program} {S : Nat → Spec} {Y : aC} (hS : TSound P S) {k : K} (hY : YSound P k Y) {H : Hp} {w : World} (hr : Rel k H w) {a : Act} {ev : Operand → V} (he : ∀ x, Conc k (a.eval x) (ev x)) {o : Oper} {c : Call} {f : Operand}
    (ho : o.op = .call c) (hf : c.callee = .value f) {K' : V → Hp → Prop} (h : callV S Y (ev f) (c.args.toList.map ev) H K') {next : Act → World → Prop} {Q : Exit → Act → World → Prop} (hn : Goes k H w K' o a next) : o.wpIn (FR ro) 0 P a w next Q := by
  have hd : ∀ c, o.op ≠ .defer c := fun c => by rw [ho]; simp
  have hargs := ConcL.of_map he c.args
  have hfv := he f
  unfold callV at h
  split at h
  · rename_i g first caps hev
    rw [hev] at hfv
    cases hv : a.eval f <;> rw [hv] at hfv <;> cases hfv
    rename_i fa fc i1 i2 i3 i4
    have hall : ConcL k (fa ++ c.args.map a.eval ++ fc) (first ++ c.args.toList.map ev ++ caps) := (ConcL.append ⟨i1, i2⟩ hargs).append ⟨i3, i4⟩
    have hrun : (execOp a.eval o).run P w = (callFunc g (fa ++ c.args.map a.eval ++ fc)).run P w := by
      simp only [execOp, ho, resolve, hf, hv, Deferred.ofValue, Sem.run_bind, Sem.run_pure, Result.andThen_ok, invoke]
    rcases hS g Y _ _ _ h k w _ hY hr hall with ⟨v, w', h1, h2⟩ | ⟨h1, h2⟩
    · exact ba hd (by rw [hrun, h1]) (hn v w' h2)
    · refine ⟨fun _ _ => trivial, ?_⟩
      rw [semAt_FR _ _ _ hd, hrun, h1]
      refine ⟨fun hx => by simp [FR, Fence.wide] at hx, trivial, ?_⟩
      intro cs hroom
      obtain ⟨e, w', fr, ⟨v, rfl, hp⟩, h3, h4⟩ := h2.2 cs hroom
      exact ⟨.returned v, w', fr, hn v w' hp, h3, h4⟩
  · rename_i l first caps hev
    rw [hev] at hfv
    cases hv : a.eval f <;> rw [hv] at hfv <;> cases hfv
    rename_i fa fc i1 i2 i3 i4
    have hall : ConcL k (fa ++ c.args.map a.eval) (first ++ c.args.toList.map ev) := ConcL.append ⟨i1, i2⟩ hargs
    obtain ⟨Q', h, hup⟩ := h
    obtain ⟨fn, tmps, assign, body, h1, h2⟩ := hY l _ _ _ h k w _ (K.le.refl _) hr hall
    have hrun : (execOp a.eval o).run P w = .ok (.round l fn tmps assign body) w := by
      simp only [execOp, ho, resolve, hf, hv, Deferred.ofValue, Sem.run_bind, Sem.run_pure, Result.andThen_ok, invoke]
      exact h1
    refine ⟨fun _ _ => trivial, ?_⟩
    rw [semAt_FR _ _ _ hd, hrun]
    refine ⟨fun hx => by simp [FR, Fence.wide] at hx, trivial, ?_⟩
    intro c' cs hroom
    obtain ⟨e, w', ⟨v, rfl, hp⟩, h3⟩ := h2.2 c' cs hroom
    exact ⟨.returned v, w', hn v w' (hp.mono hup), h3⟩
  · exact h.elim

/-- **ONE OPERATION, SOUND.** -/
theorem wpOp_sound {ro : Option Nat} {P : Program} {S : Nat → Spec} {Y : aC} (hS : TSound P S) {k : K} (hY : YSound P k Y) {H : Hp} {w : World} (hr : Rel k H w) {a : Act} {ev : Operand → V} (he : ∀ x, Conc k (a.eval x) (ev x)) {own : Bool} {o : Oper}
    {K' : V → Hp → Prop} (h : wpOp P S Y own H ev o.op K') {next : Act → World → Prop} {Q : Exit → Act → World → Prop} (hn : Goes k H w K' o a next) : o.wpIn (FR ro) 0 P a w next Q := by
  have gen : ∀ z, pval P H ev o.op = some z → (∀ c, o.op ≠ .defer c) → K' z H → o.wpIn (FR ro) 0 P a w next Q := fun z hz hd hq => by
    obtain ⟨c, h1, h2⟩ := pval_sound hr he hz
    exact ba hd h1 (hn c w (OpPost.pure hr h2 hq))
  have sl : ∀ x, (∃ B, sealA B (ev x) H K') → (∀ c, o.op ≠ .defer c) → (execOp a.eval o).run P w = .ok (.value (a.eval x)) w → o.wpIn (FR ro) 0 P a w next Q := fun x ⟨B, hB⟩ hd hrun =>
    ba hd hrun (hn _ w (sealA_sound B hr (he x) hB))
  unfold wpOp at h
  split at h
  · rename_i x heq
    split at h
    · exact sl x h (by simp [heq]) (by simp [execOp, heq])
    · obtain ⟨z, hz, hq⟩ := h
      exact gen z (by rw [heq]; exact hz) (by simp [heq]) hq
  · rename_i x heq
    split at h
    · exact sl x h (by simp [heq]) (by simp [execOp, heq])
    · obtain ⟨z, hz, hq⟩ := h
      exact gen z (by rw [heq]; exact hz) (by simp [heq]) hq
  · rename_i t heq
    obtain ⟨z, hz, hq⟩ := h
    obtain ⟨v, w', h1, h2⟩ := alloc_sound hr hz hq
    exact ba (by simp [heq]) (by simp [execOp, heq, h1]) (hn v w' h2)
  · rename_i t x heq
    obtain ⟨z, hz, hq⟩ := h
    split at hq
    · obtain ⟨v, w', h1, h2⟩ := box_val (P := P) (t := t) hr (he x) hz hq
      exact ba (by simp [heq]) (by simp [execOp, heq, h1]) (hn v w' h2)
    · obtain ⟨v, w', h1, h2⟩ := box_sound (P := P) (t := t) hr (he x) hz hq
      exact ba (by simp [heq]) (by simp [execOp, heq, h1]) (hn v w' h2)
  · rename_i t r heq
    obtain ⟨rfl, h⟩ := h
    obtain ⟨v, w', h1, h2⟩ := makeMap_sound (P := P) (t := t) hr h
    exact ba (by simp [heq]) (by simp [execOp, heq, h1]) (hn v w' h2)
  · rename_i t x k' ok heq
    obtain ⟨v, w', h1, h2⟩ := look_sound hr (he x) (he k') h
    exact ba (by simp [heq]) (by simp [execOp, heq, h1]) (hn v w' h2)
  · rename_i t m k' x heq
    obtain ⟨w', h1, h2⟩ := mapPut_sound hr (he m) (he k') (he x) h
    exact uponIn_skip (by simp [heq]) (by simp [execOp, heq, h1]) (hn undef w' h2)
  · rename_i t m k' x heq
    obtain ⟨w', h1, h2⟩ := mapPut_sound hr (he m) (he k') (he x) h
    exact uponIn_skip (by simp [heq]) (by simp [execOp, heq, h1]) (hn undef w' h2)
  · rename_i t m k' heq
    obtain ⟨v, w', h1, h2⟩ := entry_sound hr (he m) (he k') h
    exact ba (by simp [heq]) (by simp [execOp, heq, h1]) (hn v w' h2)
  · rename_i t m k' x heq
    obtain ⟨w', h1, h2⟩ := eStore_sound (P := P) (t := t) hr (he m) (he k') (he x) h
    exact uponIn_skip (by simp [heq]) (by simp [execOp, heq, h1]) (hn undef w' h2)
  · rename_i t x heq
    obtain ⟨v, w', h1, h2⟩ := range_sound hr (he x) h
    exact ba (by simp [heq]) (by simp [execOp, heq, h1]) (hn v w' h2)
  · rename_i it s heq
    obtain ⟨rfl, h⟩ := h
    obtain ⟨v, w', h1, h2⟩ := next_sound (P := P) (ty := o.type) hr (he it) h
    exact ba (by simp [heq]) (by simp [execOp, heq, h1]) (hn v w' h2)
  · rename_i it heq
    obtain ⟨v, w', h1, h2⟩ := cur_sound (P := P) hr (he it) h
    exact ba (by simp [heq]) (by simp [execOp, heq, h1]) (hn v w' h2)
  · rename_i t x heq
    obtain ⟨ht, hq⟩ := h
    refine ba (v := .iface t (a.eval x)) (by simp [heq]) ?_ (hn _ w (OpPost.pure hr (.ifc t _ _ (he x)) hq))
    unfold plainT at ht
    split at ht
    · cases ht
    · rename_i d hd hu
      simp only [execOp, heq, Sem.run_bind]
      have : (Instr.makeInterface t (a.eval x)).run P w = .ok (.iface t (a.eval x)) w := by
        simp only [Instr.makeInterface, Sem.run_bind, run_underlying hu, Result.andThen_ok]
        cases d <;> first | rfl | exact absurd hu (hd _)
      simp [this]
    · cases ht
  · rename_i x xt t ok heq
    obtain ⟨rfl, ht, y, hy, hq⟩ := h
    have hc := he x
    rw [hy] at hc
    cases hv : a.eval x <;> rw [hv] at hc <;> cases hc
    rename_i u hcu
    refine ba (v := u) (by simp [heq]) ?_ (hn _ w (OpPost.pure hr hcu hq))
    unfold plainT at ht
    split at ht
    · cases ht
    · rename_i d hd hu
      simp only [execOp, heq, Sem.run_bind]
      have : (Instr.typeAssert (a.eval x) xt t false).run P w = .ok u w := by
        simp only [Instr.typeAssert, Sem.run_bind, run_underlying hu, Result.andThen_ok, hv]
        cases d <;> first | (simp; done) | exact absurd hu (hd _)
      simp [this]
    · cases ht
  · rename_i t len parts heq
    obtain ⟨sz, zs, es, h1, h2, h3, hq⟩ := h
    have hlen : (parts.map fun (i, x) => (i, a.eval x)).size = (parts.toList.map fun (i, x) => (i, ev x)).length := by simp
    split at hq
    · obtain ⟨v, w', g1, g2⟩ := buildSlice_own hr hlen (parts_conc he parts) h1 h2 h3 hq
      exact ba (by simp [heq]) (by simp only [execOp, heq, Sem.run_bind, g1, Result.andThen_ok, Sem.run_pure]) (hn v w' g2)
    · obtain ⟨v, w', g1, g2⟩ := buildSlice_val hr hlen (parts_conc he parts) h1 h2 h3 hq
      exact ba (by simp [heq]) (by simp only [execOp, heq, Sem.run_bind, g1, Result.andThen_ok, Sem.run_pure]) (hn v w' g2)
  · rename_i t l c heq
    obtain ⟨n, m, sz, es, h1, h2, h3, hq⟩ := h
    split at hq
    · obtain ⟨v, w', g1, g2⟩ := makeSlice_own hr (he l) (he c) h1 h2 h3 hq
      exact ba (by simp [heq]) (by simp [execOp, heq, g1]) (hn v w' g2)
    · obtain ⟨v, w', g1, g2⟩ := makeSlice_val hr (he l) (he c) h1 h2 h3 hq
      exact ba (by simp [heq]) (by simp [execOp, heq, g1]) (hn v w' g2)
  · rename_i t p x heq
    obtain ⟨H', h1, hq⟩ := h
    obtain ⟨w', g1, g2, g3⟩ := store_sound hr (he p) (he x) h1
    exact uponIn_skip (by simp [heq]) (by simp [execOp, heq, g1]) (hn undef w' ⟨.junk, H', k, hq, K.le.refl _, g2, .junk _, g3⟩)
  · rename_i s d x heq
    obtain ⟨v, w', g1, g2⟩ := wpConv_sound hr (he x) h
    exact ba (by simp [heq]) (by simp [execOp, heq, g1]) (hn v w' g2)
  · rename_i op t x y yt heq
    obtain ⟨v, w', g1, g2⟩ := wpBin_sound hr x y (he x) (he y) h
    exact ba (by simp [heq]) (by simp only [execOp, heq, Sem.run_bind] at g1 ⊢; simp [g1]) (hn v w' g2)
  · rename_i c heq
    split at h
    · rename_i f hf
      exact call_sound hS hY hr he heq hf h hn
    · rename_i b hb
      obtain ⟨v, w', g1, g2⟩ := wpBuiltin_sound (ty := o.type) (cs := c.args.map fun | .const _ => true | _ => false) hr (ConcL.of_map he c.args) h
      refine ba (by simp [heq]) ?_ (hn v w' g2)
      simp only [execOp, heq, resolve, hb, invoke, Sem.run_bind, Sem.run_pure, Result.andThen_ok]
      exact g1
    · exact h.elim
  · rename_i op' _ _ _ _ _ _ _ _ 
    obtain ⟨z, hz, hq⟩ := h
    refine gen z hz (fun c hc => ?_) hq
    rw [hc] at hz
    simp [pval] at hz

end Go.Av

namespace Go.Av
open Go.RowKit

abbrev T := Nat → V

def evT (t : T) : Operand → V
  | .tmp i => t i
  | .const v => bF v
  | .global g => .ptr g 0
  | .func f => .fn (.func f) [] []

def putT (n : Nat) (t : T) : Option Tmp → V → T
  | some d, x => if d < n then upd t d x else t
  | none, _ => t

def RelT (k : K) (n : Nat) (a : Act) (t : T) : Prop := a.tmps.size = n ∧ ∀ i, Conc k (a.tmps.getD i undef) (t i)

theorem RelT.eval {k : K} {n : Nat} {a : Act} {t : T} (h : RelT k n a t) (x : Operand) : Conc k (a.eval x) (evT t x) := by
  cases x with
  | tmp i => exact h.2 i
  | const v => exact ofVal_conc k v
  | global g => exact .ptr g 0
  | func f => exact .fn _ #[] #[] [] [] rfl rfl (fun j v x hj _ => by simp at hj) (fun j v x hj _ => by simp at hj)

theorem RelT.mono {k k' : K} (hk : k.le k') {n : Nat} {a : Act} {t : T} (h : RelT k n a t) : RelT k' n a t := ⟨h.1, fun i => (h.2 i).mono hk⟩

theorem RelT.put {k : K} {n : Nat} {a : Act} {t : T} (h : RelT k n a t) {v : Value} {x : V} (hc : Conc k v x) (d : Option Tmp) : RelT k n (a.put d v) (putT n t d x) := by
  obtain ⟨h1, h2⟩ := h
  cases d with
  | none => exact ⟨h1, h2⟩
  | some d =>
    refine ⟨by simp [Act.put, h1], fun i => ?_⟩
    unfold putT
    simp only [Act.put]
    by_cases hd : d < n
    · rw [if_pos hd]
      by_cases hi : i = d
      · subst hi
        rw [upd_same]
        have : (a.tmps.setIfInBounds i v).getD i undef = v := by simp [h1, hd]
        rw [this]; exact hc
      · rw [ah _ _ _ hi]
        have : (a.tmps.setIfInBounds d v).getD i undef = a.tmps.getD i undef := by
          rw [Array.getD_eq_getD_getElem?, Array.getD_eq_getD_getElem?, Array.getElem?_setIfInBounds_ne (Ne.symm hi)]
        rw [this]; exact h2 i
    · rw [if_neg hd, Array.setIfInBounds_eq_of_size_le (by rw [h1]; exact Nat.le_of_not_lt hd)]
      exact h2 i

theorem put_dfs (a : Act) (d : Option Tmp) (v : Value) : (a.put d v).defers = a.defers := by cases d <;> rfl

/-- Is it carried out? -/
def bR (ops : Array Oper) (t : T) : Option (Nat × Bool) → Option Bool
  | none => some true
  | some (j, want) => match (ops[j]?).bind (·.dst) with
    | none => some false
    | some d => match t d with
      | .bool b => some (b == want)
      | .tup [] => some false
      | _ => none

theorem wantedV_sound {k : K} {n : Nat} {a : Act} {t : T} (h : RelT k n a t) {ops : Array Oper} {o : Oper} {b : Bool} (hw : bR ops t o.guard = some b) : Region.wanted o (yielded ops a.tmps) = b := by
  unfold bR at hw
  unfold Region.wanted
  split at hw
  · rename_i hg; rw [hg]; cases hw; rfl
  · rename_i j want hg
    rw [hg]
    simp only
    unfold yielded
    split at hw
    · rename_i hd; cases hw; simp [hd]
    · rename_i d hd
      rw [hd]
      simp only [Option.bind_some]
      have hc := h.2 d
      split at hw
      · rename_i c ht
        rw [ht] at hc
        cases hw
        have hlt : d < a.tmps.size := by
          apply Classical.byContradiction
          intro hn
          rw [Array.getD_eq_getD_getElem?, Array.getElem?_eq_none (Nat.le_of_not_lt hn)] at hc
          cases hc
        rw [Array.getD_eq_getD_getElem?, Array.getElem?_eq_getElem hlt] at hc
        rw [Array.getElem?_eq_getElem hlt]
        simp only [Option.getD_some] at hc
        generalize a.tmps[d] = v at hc
        cases hc
        cases c <;> cases want <;> rfl
      · rename_i ht
        rw [ht] at hc
        cases hw
        cases hlt : a.tmps[d]? with
        | none => rfl
        | some v =>
          rw [Array.getD_eq_getD_getElem?, hlt] at hc
          simp only [Option.getD_some] at hc
          cases hc
          rfl
      · cases hw

/-- What is so of the state behind a piece of the walk. -/
def StPost (k : K) (H : Hp) (w : World) (n : Nat) (ds : List Deferred) (Q : T → Hp → Prop) (a' : Act) (w' : World) : Prop :=
  ∃ t' H' k', Q t' H' ∧ k.le k' ∧ Rel k' H' w' ∧ RelT k' n a' t' ∧ Fr H w H' w' ∧ a'.defers = ds

theorem StPost.trans {k k₁ : K} {H H₁ : Hp} {w w₁ : World} {n : Nat} {ds : List Deferred} {Q : T → Hp → Prop} {a' : Act} {w' : World} (hk : k.le k₁) (hf : Fr H w H₁ w₁) (h : StPost k₁ H₁ w₁ n ds Q a' w') : StPost k H w n ds Q a' w' := by
  obtain ⟨t', H', k', a, b, c, d, e, f⟩ := h
  exact ⟨t', H', k', a, hk.trans b, c, d, hf.trans e, f⟩

section
variable (P : Program) (S : Nat → Spec) (Y : aC) (O : List Nat) (n : Nat)

def owned (O : List Nat) (o : Oper) : Bool := match o.dst with
  | some d => O.contains d
  | none => false

def wpOps (ops : Array Oper) : List Oper → T → Hp → (T → Hp → Prop) → Prop
  | [], t, H, Q => Q t H
  | o :: r, t, H, Q => match bR ops t o.guard with
    | some b => (b = true → wpOp P S Y (owned O o) H (evT t) o.op (fun x H' => wpOps ops r (putT n t o.dst x) H' Q)) ∧ (b = false → wpOps ops r (putT n t o.dst (.tup [])) H Q)
    | none => False
end

section
variable {P : Program} {S : Nat → Spec} {Y : aC} {O : List Nat} {n : Nat} {ro : Option Nat}

theorem wpOpT_sound (hS : TSound P S) {k : K} (hY : YSound P k Y) {H : Hp} {w : World} (hr : Rel k H w) {a : Act} {t : T} (hT : RelT k n a t) {own : Bool} {o : Oper} {Q : T → Hp → Prop}
    (h : wpOp P S Y own H (evT t) o.op (fun x H' => Q (putT n t o.dst x) H')) {next : Act → World → Prop} {QE : Exit → Act → World → Prop} (hn : ∀ a' w', StPost k H w n a.defers Q a' w' → next a' w') : o.wpIn (FR ro) 0 P a w next QE :=
  wpOp_sound hS hY hr hT.eval h (fun v w' hp => by
    obtain ⟨x, H', k', a1, a2, a3, a4, a5⟩ := hp
    exact hn _ _ ⟨_, H', k', a1, a2, a3, (hT.mono a2).put a4 _, a5, put_dfs _ _ _⟩)

theorem about_FR (o : Oper) (P : Program) (w : World) (ev : Operand → Value) : ∀ f, o.about P w ev = some f → (FR ro).fn f := fun _ _ => trivial

theorem wpOps_sound (hS : TSound P S) {ops : Array Oper} {QE : Exit → Act → World → Prop} : ∀ (os : List Oper) (l : List Nat), l.map (ops[·]?) = os.map some → ∀ {k : K} (_ : YSound P k Y) {H : Hp} {w : World} (_ : Rel k H w) {a : Act} {t : T} (_ : RelT k n a t) {Q : T → Hp → Prop},
    wpOps P S Y O n ops os t H Q → (∀ a' w', StPost k H w n a.defers Q a' w' → QE .normal a' w') → wpOpsIn (FR ro) 0 P ops QE l a w
  | [], [], _, k, _, H, w, hr, a, t, hT, Q, h, hq => hq _ _ ⟨t, H, k, h, K.le.refl _, hr, hT, Fr.refl _ _, rfl⟩
  | [], _ :: _, hl, _, _, _, _, _, _, _, _, _, _, _ => by simp at hl
  | _ :: _, [], hl, _, _, _, _, _, _, _, _, _, _, _ => by simp at hl
  | o :: os, i :: l, hl, k, hY, H, w, hr, a, t, hT, Q, h, hq => by
    simp only [List.map_cons, List.cons.injEq] at hl
    obtain ⟨hi, hl⟩ := hl
    unfold wpOps at h
    unfold wpOpsIn
    rw [hi]
    simp only
    split at h
    · rename_i b hb
      have hw := wantedV_sound hT hb
      rw [hw]
      cases b with
      | true =>
        rw [if_pos rfl]
        exact wpOpT_sound (Q := fun t' H' => wpOps P S Y O n ops os t' H' Q) hS hY hr hT (h.1 rfl) (fun a' w' ⟨t', H', k', b1, b2, b3, b4, b5, b6⟩ =>
          wpOps_sound hS os l hl (hY.mono b2) b3 b4 b1 (fun a'' w'' hp => hq _ _ (by rw [b6] at hp; exact hp.trans b2 b5)))
      | false =>
        rw [if_neg (by simp)]
        refine ⟨about_FR _ _ _ _, ?_⟩
        have hT' := hT.put (Conc.tup (k := k) #[] [] rfl (fun j v x hj _ => by simp at hj)) o.dst
        exact wpOps_sound hS os l hl hY hr hT' (h.2 rfl) (fun a'' w'' hp => hq _ _ (by rw [put_dfs] at hp; exact hp))
    · exact h.elim

theorem range_map (ops : Array Oper) : (List.range ops.size).map (ops[·]?) = ops.toList.map some := by
  apply List.ext_getElem?
  intro i
  simp only [List.getElem?_map]
  by_cases h : i < ops.size
  · simp [h]
  · simp [h]

theorem wpRegion_sound (hS : TSound P S) {k : K} (hY : YSound P k Y) {H : Hp} {w : World} (hr : Rel k H w) {a : Act} {t : T} (hT : RelT k n a t) {id : Nat} {ops : Array Oper} {Q : T → Hp → Prop} {QE : Exit → Act → World → Prop}
    (h : wpOps P S Y O n ops ops.toList t H Q) (hq : ∀ a' w', StPost k H w n a.defers Q a' w' → QE .normal a' w') : (Code.region id ops false).wpIn (FR ro) 0 P QE a w :=
  wpIn_region (wpOps_sound hS _ _ (range_map ops) hY hr hT h hq)

end
end Go.Av

namespace Go.Av
open Go.RowKit

theorem wpOp_congr {P : Program} {S : Nat → Spec} {Y : aC} {own : Bool} {H : Hp} {ev ev' : Operand → V} {op : Op} {Q : V → Hp → Prop} (h : ∀ x ∈ op.operands, ev x = ev' x) : wpOp P S Y own H ev op Q = wpOp P S Y own H ev' op Q := by
  have pairs : ∀ ps : Array (Nat × Operand), (∀ x ∈ (ps.toList.map (·.2)).toArray, ev x = ev' x) → (ps.toList.map fun (i, x) => (i, ev x)) = (ps.toList.map fun (i, x) => (i, ev' x)) := fun ps hp =>
    List.map_congr_left fun p hm => by
      obtain ⟨i, x⟩ := p
      simp only [hp x (by simpa using ⟨i, by simpa using hm⟩)]
  cases op <;> simp only [Op.operands] at h <;> simp only [wpOp, pval]
  case build t ps => rw [pairs ps h]
  case buildSlice t n ps => rw [pairs ps h]
  case makeFunc fn first captured =>
    rw [List.map_congr_left (l := first.toList) fun x hx => h x (by simp [Array.mem_toList_iff.1 hx]), List.map_congr_left (l := captured.toList) fun x hx => h x (by simp [Array.mem_toList_iff.1 hx])]
  case call c =>
    obtain ⟨callee, args, ats⟩ := c
    have hargs : args.toList.map ev = args.toList.map ev' := List.map_congr_left fun x hx => h x (by simp [Call.operands, Array.mem_toList_iff.1 hx])
    cases callee with
    | value f => have hf : ev f = ev' f := h f (by simp [Call.operands]); simp only [hf, hargs]
    | invoke r m => rfl
    | builtin b => simp only [hargs]
  case slice t x lo hi mx => cases lo <;> cases hi <;> cases mx <;> simp_all
  all_goals (first | rfl | (simp_all; done))

theorem putT_comm (n : Nat) (t : T) {d e : Option Tmp} (x y : V) (h : ∀ i, d = some i → e ≠ some i) : putT n (putT n t d x) e y = putT n (putT n t e y) d x := by
  cases d with
  | none => rfl
  | some d =>
    cases e with
    | none => rfl
    | some e =>
      have hne : d ≠ e := fun he => h d rfl (he ▸ rfl)
      unfold putT
      by_cases h1 : d < n <;> by_cases h2 : e < n <;> simp only [h1, h2, if_true, if_false]
      funext i
      simp only [upd_apply]
      by_cases a1 : i = e <;> by_cases a2 : i = d <;> simp_all

theorem evT_put {n : Nat} {t : T} {d : Option Tmp} {x : V} {o : Operand} (h : ∀ i, d = some i → o ≠ .tmp i) : evT (putT n t d x) o = evT t o := by
  cases d with
  | none => rfl
  | some d =>
    cases o with
    | tmp i =>
      have hne : i ≠ d := fun e => h d rfl (e ▸ rfl)
      simp only [evT, putT]
      split
      · exact ah _ _ _ hne
      · rfl
    | _ => rfl

section
variable {ops : Array Oper}

theorem wantedV_put {n : Nat} {t : T} {o : Oper} {d : Option Tmp} {x : V} (h : ∀ i, d = some i → i ∉ o.looksAt ops) : bR ops (putT n t d x) o.guard = bR ops t o.guard := by
  cases d with
  | none => rfl
  | some d =>
    unfold bR
    cases hg : o.guard with
    | none => rfl
    | some gw =>
      obtain ⟨g, want⟩ := gw
      simp only
      cases hb : (ops[g]?).bind (·.dst) with
      | none => rfl
      | some i =>
        have hne : i ≠ d := fun e => h d rfl (by subst e; simp [Oper.looksAt, hg, hb])
        have : putT n t (some d) x i = t i := by
          show (if d < n then upd t d x else t) i = t i
          split
          · exact ah _ _ _ hne
          · rfl
        simp only [this]

theorem evT_looks {n : Nat} {t : T} {o : Oper} {d : Option Tmp} {x : V} (h : ∀ i, d = some i → i ∉ o.looksAt ops) : ∀ y ∈ o.op.operands, evT (putT n t d x) y = evT t y := fun y hy =>
  evT_put fun i hi hyi => h i hi (by
    subst hyi
    exact List.mem_append_left _ (List.mem_filterMap.2 ⟨.tmp i, by simpa using hy, rfl⟩))
end

section
variable (P : Program) (S : Nat → Spec) (Y : aC) (O : List Nat) (n : Nat) (ops : Array Oper) (C : Hp → Prop)

/-- One value, whatever heap of the class. -/
def quietV (o : Oper) (t : T) (x : V) : Prop := ∀ H', C H' → wpOp P S Y (owned O o) H' (evT t) o.op (fun y H'' => y = x ∧ H'' = H')

def opA (fx : Nat → Bool) (i : Nat) (K : T → Hp → Prop) (t : T) (H : Hp) : Prop :=
  match ops[i]? with
  | none => K t H
  | some o => match bR ops t o.guard with
    | some true => if fx i then ∃ Q : V → Hp → Prop, wpOp P S Y (owned O o) H (evT t) o.op Q ∧ ∀ x H', Q x H' → C H' ∧ K (putT n t o.dst x) H' else ∃ x, quietV P S Y O C o t x ∧ K (putT n t o.dst x) H
    | some false => K (putT n t o.dst (.tup [])) H
    | none => False

def YieldsA (o : Oper) (x : V) (t : T) : Prop :=
  (bR ops t o.guard = some true ∧ quietV P S Y O C o t x) ∨ (bR ops t o.guard = some false ∧ x = .tup [])

def anyA (m : Nat) (fx : Nat → Bool) (L : Array Bool → T → Hp → Prop) : Nat → Array Bool → T → Hp → Prop
  | 0, listed, t, H => L listed t H
  | f + 1, listed, t, H =>
    Region.ready .any ops listed ≠ [] ∧ ∀ i ∈ Region.ready .any ops listed, i < m ∧ opA P S Y O n ops C fx i (anyA m fx L f (listed.setIfInBounds i true)) t H

/-- The walk of the operations that turn nothing, in the order of the list; then the rest of the head in whatever order. -/
def walkA (m : Nat) (fx : Nat → Bool) (L : Array Bool → T → Hp → Prop) (g : Nat) : List Nat → Array Bool → T → Hp → Prop
  | [], listed, t, H => anyA P S Y O n ops C m fx L g listed t H
  | i :: r, listed, t, H => fx i = false ∧ opA P S Y O n ops C fx i (walkA m fx L g r (listed.setIfInBounds i true)) t H

end

section
variable {P : Program} {S : Nat → Spec} {Y : aC} {O : List Nat} {n : Nat} {ops : Array Oper} {C : Hp → Prop}

theorem opA_mono {fx : Nat → Bool} {i : Nat} {K K' : T → Hp → Prop} {t : T} {H : Hp} (h : ∀ t H, K t H → K' t H) (hh : opA P S Y O n ops C fx i K t H) : opA P S Y O n ops C fx i K' t H := by
  unfold opA at *
  split
  · exact h _ _ (by simpa [*] using hh)
  · rename_i o ho
    simp only [ho] at hh
    split
    · rename_i hw
      simp only [hw] at hh
      split
      · rename_i hf
        simp only [hf, if_true] at hh
        obtain ⟨Q, h1, h2⟩ := hh
        exact ⟨Q, h1, fun x H' hq => ⟨(h2 x H' hq).1, h _ _ (h2 x H' hq).2⟩⟩
      · rename_i hf
        simp only [hf] at hh
        obtain ⟨x, h1, h2⟩ := hh
        exact ⟨x, h1, h _ _ h2⟩
    · rename_i hw; simp only [hw] at hh; exact h _ _ hh
    · rename_i hw; simp only [hw] at hh

theorem quietV_congr {o : Oper} {t t' : T} {x : V} (h : ∀ y ∈ o.op.operands, evT t' y = evT t y) (hq : quietV P S Y O C o t x) : quietV P S Y O C o t' x := fun H' hc => by
  rw [wpOp_congr h]; exact hq H' hc

theorem YieldsA.opA {fx : Nat → Bool} {i : Nat} {o : Oper} {x : V} {t : T} {H : Hp} (hi : ops[i]? = some o) (hf : fx i = false) (hy : YieldsA P S Y O ops C o x t) {K : T → Hp → Prop} (h : K (putT n t o.dst x) H) : opA P S Y O n ops C fx i K t H := by
  unfold Go.Av.opA
  simp only [hi]
  rcases hy with ⟨hw, hv⟩ | ⟨hw, rfl⟩
  · simp only [hw, hf]; exact ⟨x, hv, h⟩
  · simp only [hw]; exact h

theorem yieldsA_of_opA {fx : Nat → Bool} {i : Nat} {o : Oper} {t : T} {H : Hp} {K : T → Hp → Prop} (hi : ops[i]? = some o) (hf : fx i = false) (h : opA P S Y O n ops C fx i K t H) : ∃ x, YieldsA P S Y O ops C o x t ∧ K (putT n t o.dst x) H := by
  unfold Go.Av.opA at h
  simp only [hi] at h
  split at h
  · rename_i hw
    simp only [hf] at h
    obtain ⟨x, h1, h2⟩ := h
    exact ⟨x, .inl ⟨hw, h1⟩, h2⟩
  · rename_i hw
    exact ⟨.tup [], .inr ⟨hw, rfl⟩, h⟩
  · exact h.elim

theorem opA_put {fx : Nat → Bool} {j : Nat} {oi oj : Oper} {x : V} (hj : ops[j]? = some oj) (hap : oi.apart ops oj = true) {K : T → Hp → Prop} {t : T} {H : Hp}
    (hy : YieldsA P S Y O ops C oi x t) (h : opA P S Y O n ops C fx j K (putT n t oi.dst x) H) :
    opA P S Y O n ops C fx j (fun t' H' => YieldsA P S Y O ops C oi x t' ∧ K (putT n t' oi.dst x) H') t H := by
  obtain ⟨h1, h2, h3⟩ := Oper.apart_spec hap
  have keep : ∀ y, YieldsA P S Y O ops C oi x (putT n t oj.dst y) := fun y => by
    rcases hy with ⟨a, b⟩ | ⟨a, b⟩
    · exact .inl ⟨(wantedV_put h3).trans a, quietV_congr (evT_looks h3) b⟩
    · exact .inr ⟨(wantedV_put h3).trans a, b⟩
  unfold opA at *
  simp only [hj] at *
  rw [wantedV_put h1] at h
  split
  · rename_i hw
    simp only [hw] at h
    split
    · rename_i hf
      simp only [hf, if_true] at h
      obtain ⟨Q, g1, g2⟩ := h
      rw [wpOp_congr (evT_looks h1)] at g1
      exact ⟨Q, g1, fun y H' hq => ⟨(g2 y H' hq).1, keep y, by rw [← putT_comm n t x y h2]; exact (g2 y H' hq).2⟩⟩
    · rename_i hf
      simp only [hf] at h
      obtain ⟨y, g1, g2⟩ := h
      exact ⟨y, quietV_congr (fun o ho => (evT_looks h1 o ho).symm) g1, keep y, by rw [← putT_comm n t x y h2]; exact g2⟩
  · rename_i hw
    simp only [hw] at h
    exact ⟨keep _, by rw [← putT_comm n t x _ h2]; exact h⟩
  · rename_i hw
    simp only [hw] at h

theorem anyA_first {m i : Nat} {oi : Oper} {x : V} {fx : Nat → Bool} {L : Array Bool → T → Hp → Prop} (hi : ops[i]? = some oi) (hf : fx i = false)
    (hs : Region.sinkB .any ops m = true) (hc : Region.chainB .any ops m = true) (hn : m < ops.size) (hin : i < m)
    (hdone : ∀ listed t H, L listed t H → ∀ j ∈ Region.ready .any ops listed, m ≤ j) :
    ∀ (f : Nat) (listed : Array Bool) (t : T) (H : Hp), HeadInv .any ops m listed →
      (∀ j oj, ops[j]? = some oj → j ≠ i → listed.getD j true = false → (∀ e ∈ oj.after, Region.binds .any e = true → e.on ≠ i) → oi.apart ops oj = true) →
      i ∈ Region.ready .any ops listed → YieldsA P S Y O ops C oi x t →
      anyA P S Y O n ops C m fx L f (listed.setIfInBounds i true) (putT n t oi.dst x) H → anyA P S Y O n ops C m fx L (f + 1) listed t H := by
  intro f
  induction f with
  | zero =>
    intro listed t H inv _ hr hy h
    have hun := (mem_ready.1 hr).1
    refine ⟨fun h => (by rw [h] at hr; cases hr), fun j hj => ?_⟩
    have hjn : j < m := by
      rcases Nat.lt_or_ge j m with h | h
      · exact h
      · exact absurd hj (tail_waits hs hc hn inv _ i rfl hin hun j h)
    refine ⟨hjn, ?_⟩
    by_cases hji : j = i
    · subst hji; exact hy.opA hi hf h
    · have := hdone _ _ _ h j (ready_mono hj hji)
      omega
  | succ f ih =>
    intro listed t H inv hfree hr hy h
    have hun := (mem_ready.1 hr).1
    refine ⟨fun h => (by rw [h] at hr; cases hr), fun j hj => ?_⟩
    have hjn : j < m := by
      rcases Nat.lt_or_ge j m with h | h
      · exact h
      · exact absurd hj (tail_waits hs hc hn inv _ i rfl hin hun j h)
    refine ⟨hjn, ?_⟩
    by_cases hji : j = i
    · subst hji; exact hy.opA hi hf h
    · have h1 := (h.2 j (ready_mono hj hji)).2
      obtain ⟨hjun, oj, hoj, hall⟩ := mem_ready.1 hj
      have hnot : ∀ e ∈ oj.after, Region.binds .any e = true → e.on ≠ i := fun e he hb heq => by
        have h1 := hall e he hb
        rw [heq, getD_both hun] at h1
        cases h1
      have h2 := opA_put hoj (hfree j oj hoj hji hjun hnot) hy h1
      have hfree' : ∀ k ok, ops[k]? = some ok → k ≠ i → (listed.setIfInBounds j true).getD k true = false →
          (∀ e ∈ ok.after, Region.binds .any e = true → e.on ≠ i) → oi.apart ops ok = true := fun k ok hk hki hun hno => by
        refine hfree k ok hk hki ?_ hno
        by_cases hjk : j = k
        · subst hjk; exact hjun
        · rw [getD_set_ne true hjk] at hun; exact hun
      refine opA_mono (fun t' H' h3 => ih (listed.setIfInBounds j true) t' H' (inv.set hj hjn) hfree' (ready_mono hr (Ne.symm hji)) h3.1 ?_) h2
      rw [Array.setIfInBounds_comm _ _ hji]
      exact h3.2

/-- What is asked of the order of the walk. -/
def walkB (ops : Array Oper) (m : Nat) : List Nat → Array Bool → Bool
  | [], _ => true
  | i :: r, listed => decide (i < m) && (Region.ready .any ops listed).contains i && Region.free .any ops listed i && walkB ops m r (listed.setIfInBounds i true)

theorem anyA_of_walk {m : Nat} {fx : Nat → Bool} {L : Array Bool → T → Hp → Prop} (hs : Region.sinkB .any ops m = true) (hc : Region.chainB .any ops m = true) (hn : m < ops.size)
    (hdone : ∀ listed t H, L listed t H → ∀ j ∈ Region.ready .any ops listed, m ≤ j) (g : Nat) : ∀ (l : List Nat) (listed : Array Bool) (t : T) (H : Hp), HeadInv .any ops m listed → walkB ops m l listed = true →
    walkA P S Y O n ops C m fx L g l listed t H → anyA P S Y O n ops C m fx L (l.length + g) listed t H
  | [], _, _, _, _, _, h => by rw [List.length_nil, Nat.zero_add]; exact h
  | i :: l, listed, t, H, inv, hB, h => by
    simp only [walkB, Bool.and_eq_true, decide_eq_true_eq] at hB
    obtain ⟨⟨⟨him, hr⟩, hf⟩, hB'⟩ := hB
    have hr' : i ∈ Region.ready .any ops listed := by simpa using hr
    obtain ⟨_, o, ho, _⟩ := mem_ready.1 hr'
    obtain ⟨hfx, h⟩ := h
    obtain ⟨x, hy, hK⟩ := yieldsA_of_opA ho hfx h
    rw [List.length_cons, show l.length + 1 + g = (l.length + g) + 1 by omega]
    exact anyA_first ho hfx hs hc hn him hdone (l.length + g) listed t H inv (Region.free_spec ho hf) hr' hy (anyA_of_walk hs hc hn hdone g l _ _ _ (inv.set hr' him) hB' hK)

end
end Go.Av

namespace Go.Av
open Go.RowKit

section
variable {P : Program} {S : Nat → Spec} {Y : aC} {O : List Nat} {n : Nat} {ops : Array Oper} {C : Hp → Prop} {ro : Option Nat}

theorem opA_sound (hS : TSound P S) {k : K} (hY : YSound P k Y) {H : Hp} {w : World} (hr : Rel k H w) {a : Act} {t : T} (hT : RelT k n a t) (hC : C H) {fx : Nat → Bool} {i : Nat} {K₁ : T → Hp → Prop} {K' : Act → World → Prop} {QE : Exit → Act → World → Prop}
    (h : opA P S Y O n ops C fx i K₁ t H) (hn : ∀ a' w', StPost k H w n a.defers (fun t' H' => C H' ∧ K₁ t' H') a' w' → K' a' w') : wpOpIn (FR ro) 0 P ops QE i K' a w := by
  unfold opA at h
  unfold wpOpIn
  split
  · rename_i ho
    simp only [ho] at h
    exact hn _ _ ⟨t, H, k, ⟨hC, h⟩, K.le.refl _, hr, hT, Fr.refl _ _, rfl⟩
  · rename_i o ho
    simp only [ho] at h
    split at h
    · rename_i hw
      rw [if_pos (wantedV_sound hT hw)]
      split at h
      · obtain ⟨Q, h1, h2⟩ := h
        refine wpOp_sound hS hY hr hT.eval h1 (fun v w' hp => ?_)
        obtain ⟨x, H', k', a1, a2, a3, a4, a5⟩ := hp
        exact hn _ _ ⟨_, H', k', h2 x H' a1, a2, a3, (hT.mono a2).put a4 _, a5, put_dfs _ _ _⟩
      · obtain ⟨x, h1, h2⟩ := h
        refine wpOp_sound hS hY hr hT.eval (h1 H hC) (fun v w' hp => ?_)
        obtain ⟨y, H', k', ⟨e1, e2⟩, a2, a3, a4, a5⟩ := hp
        subst e1
        subst e2
        exact hn _ _ ⟨_, _, k', ⟨hC, h2⟩, a2, a3, (hT.mono a2).put a4 _, a5, put_dfs _ _ _⟩
    · rename_i hw
      rw [if_neg (by rw [wantedV_sound hT hw]; simp)]
      refine ⟨about_FR _ _ _ _, ?_⟩
      have hT' := hT.put (Conc.tup (k := k) #[] [] rfl (fun j v x hj _ => by simp at hj)) o.dst
      exact hn _ _ ⟨_, H, k, ⟨hC, h⟩, K.le.refl _, hr, hT', Fr.refl _ _, put_dfs _ _ _⟩
    · exact h.elim

theorem anyA_sound (hS : TSound P S) {k₀ : K} (hY : YSound P k₀ Y) {H₀ : Hp} {w₀ : World} {ds : List Deferred} {m g : Nat} {fx : Nat → Bool} {L : Array Bool → T → Hp → Prop} {QE : Exit → Act → World → Prop}
    (hL : ∀ listed k H w a t, k₀.le k → Rel k H w → RelT k n a t → Fr H₀ w₀ H w → a.defers = ds → L listed t H → wpAnyIn (FR ro) 0 P .any ops QE g listed a w) :
    ∀ (f : Nat) (listed : Array Bool) (k : K) (H : Hp) (w : World) (a : Act) (t : T), k₀.le k → Rel k H w → RelT k n a t → Fr H₀ w₀ H w → a.defers = ds → C H →
      anyA P S Y O n ops C m fx L f listed t H → wpAnyIn (FR ro) 0 P .any ops QE (f + g) listed a w
  | 0, listed, k, H, w, a, t, h1, h2, h3, h4, h5, _, h => by rw [Nat.zero_add]; exact hL _ _ _ _ _ _ h1 h2 h3 h4 h5 h
  | f + 1, listed, k, H, w, a, t, h1, h2, h3, h4, h5, hC, h => by
    rw [show f + 1 + g = (f + g) + 1 by omega]
    refine ⟨fun h0 => absurd h0 h.1, fun i hi => opA_sound hS (hY.mono h1) h2 h3 hC (h.2 i hi).2 (fun a' w' hp => ?_)⟩
    obtain ⟨t', H', k', ⟨b0, b1⟩, b2, b3, b4, b5, b6⟩ := hp
    exact anyA_sound hS hY hL f _ k' H' w' a' t' (h1.trans b2) b3 b4 (h4.trans b5) (b6.trans h5) b0 b1

theorem anyIn_of_seq (hS : TSound P S) {QE : Exit → Act → World → Prop} : ∀ (l : List Oper) (i : Nat) (listed : Array Bool) {k : K} (_ : YSound P k Y) {H : Hp} {w : World} (_ : Rel k H w) {a : Act} {t : T} (_ : RelT k n a t) {Q : T → Hp → Prop}, (∀ j, l[j]? = ops[i + j]?) →
    Region.seqB .any ops l.length i listed = true → wpOps P S Y O n ops l t H Q → (∀ a' w', StPost k H w n a.defers Q a' w' → QE .normal a' w') → wpAnyIn (FR ro) 0 P .any ops QE l.length listed a w
  | [], i, listed, k, hY, H, w, hr, a, t, hT, Q, _, hB, h, hq => ⟨by simpa [Region.seqB] using hB, hq _ _ ⟨t, H, k, h, K.le.refl _, hr, hT, Fr.refl _ _, rfl⟩⟩
  | o :: l, i, listed, k, hY, H, w, hr, a, t, hT, Q, hl, hB, h, hq => by
    have h0 : ops[i]? = some o := by simpa using (hl 0).symm
    simp only [List.length_cons, Region.seqB, Bool.and_eq_true, decide_eq_true_eq] at hB
    refine ⟨fun h1 => (by rw [hB.1] at h1; cases h1), fun j hj => ?_⟩
    rw [hB.1] at hj
    have hji : j = i := by simpa using hj
    subst hji
    have hl' : ∀ m, l[m]? = ops[(j + 1) + m]? := fun m => by have := hl (m + 1); simpa [Nat.add_assoc, Nat.add_comm 1 m] using this
    unfold wpOpIn
    simp only [h0]
    unfold wpOps at h
    split at h
    · rename_i b hb
      have hw := wantedV_sound hT hb
      rw [hw]
      cases b with
      | true =>
        rw [if_pos rfl]
        exact wpOpT_sound (Q := fun t' H' => wpOps P S Y O n ops l t' H' Q) hS hY hr hT (h.1 rfl) (fun a' w' ⟨t', H', k', b1, b2, b3, b4, b5, b6⟩ =>
          anyIn_of_seq hS l (j + 1) _ (hY.mono b2) b3 b4 hl' hB.2 b1 (fun a'' w'' hp => hq _ _ (by rw [b6] at hp; exact hp.trans b2 b5)))
      | false =>
        rw [if_neg (by simp)]
        refine ⟨about_FR _ _ _ _, ?_⟩
        have hT' := hT.put (Conc.tup (k := k) #[] [] rfl (fun j v x hj _ => by simp at hj)) o.dst
        exact anyIn_of_seq hS l (j + 1) _ hY hr hT' hl' hB.2 (h.2 rfl) (fun a'' w'' hp => hq _ _ (by rw [put_dfs] at hp; exact hp))
    · exact h.elim

/-- The Bool over a drawn region: its head has m operations; those of the list qs are taken in that order. -/
def drawB (ops : Array Oper) (m : Nat) (qs : List Nat) : Bool :=
  decide (m < ops.size) && decide (qs.length ≤ m) && Region.sinkB .any ops m && Region.chainB .any ops m && walkB ops m qs (Array.replicate ops.size false)

def DrawOk (P : Program) (S : Nat → Spec) (Y : aC) (O : List Nat) (n : Nat) (ops : Array Oper) (t : T) (H : Hp) (Q : T → Hp → Prop) : Prop :=
  ∃ (m : Nat) (C : Hp → Prop) (fx : Nat → Bool) (qs : List Nat), drawB ops m qs = true ∧ C H ∧
    walkA P S Y O n ops C m fx (fun listed' t' H' => Region.seqB .any ops (ops.size - m) m listed' = true ∧ wpOps P S Y O n ops (ops.toList.drop m) t' H' Q) (m - qs.length) qs (Array.replicate ops.size false) t H

theorem wpDraw_sound (hm : P.follows .mixedOrders = true) (hS : TSound P S) {k : K} (hY : YSound P k Y) {H : Hp} {w : World} (hr : Rel k H w) {a : Act} {t : T} (hT : RelT k n a t) {id : Nat} {Q : T → Hp → Prop} {QE : Exit → Act → World → Prop}
    (h : DrawOk P S Y O n ops t H Q) (hq : ∀ a' w', StPost k H w n a.defers Q a' w' → QE .normal a' w') : (Code.region id ops true).wpIn (FR ro) 0 P QE a w := by
  obtain ⟨m, C, fx, qs, hB, hC, h⟩ := h
  simp only [drawB, Bool.and_eq_true, decide_eq_true_eq] at hB
  obtain ⟨⟨⟨⟨hn, hle⟩, hs⟩, hc⟩, hw⟩ := hB
  have inv0 : HeadInv .any ops m (Array.replicate ops.size false) :=
    ⟨by simp, fun j oj _ hl => (by rw [getD_replicate_false] at hl; cases hl), fun t _ ht => getD_in (by simpa using ht) (getD_replicate_false _ _)⟩
  have h1 := anyA_of_walk hs hc hn (fun listed t H hL => seqB_ready hL.1) (m - qs.length) qs _ t H inv0 hw h
  rw [show qs.length + (m - qs.length) = m by omega] at h1
  have hr' : Rel k H { w with drawn := w.drawn + 1 } := hr.heap rfl
  have hf' : Fr H w H { w with drawn := w.drawn + 1 } := ⟨rfl, rfl, rfl, Nat.le_refl _, fun _ _ _ => rfl, fun _ _ h => h⟩
  have hlen : (ops.toList.drop m).length = ops.size - m := by simp
  refine wpIn_region_any hm ?_
  have := anyA_sound (ro := ro) (g := ops.size - m) (QE := QE) hS hY (H₀ := H) (w₀ := { w with drawn := w.drawn + 1 }) (ds := a.defers) (fun listed k' H' w' a' t' g1 g2 g3 g4 g5 hL => by
    have := anyIn_of_seq (ro := ro) (O := O) hS (ops.toList.drop m) m listed (hY.mono g1) g2 g3 (QE := QE) (Q := Q) (fun j => by simp [List.getElem?_drop]) (by rw [hlen]; exact hL.1) hL.2 (fun a'' w'' hp => hq _ _ (by
      rw [g5] at hp
      exact (hp.trans g1 g4).trans (K.le.refl _) hf'))
    rwa [hlen] at this) m _ k H { w with drawn := w.drawn + 1 } a t (K.le.refl _) hr' hT (Fr.refl _ _) rfl hC h1
  rw [show m + (ops.size - m) = ops.size by omega] at this
  exact this

/-- The frequent case: the head turns nothing. -/
def cd (P : Program) (S : Nat → Spec) (Y : aC) (O : List Nat) (n : Nat) (ops : Array Oper) : List Oper → T → Hp → (T → Hp → Prop) → Prop
  | [], t, H, Q => Q t H
  | o :: r, t, H, Q => match bR ops t o.guard with
    | some b => (b = true → ∃ x, wpOp P S Y (owned O o) H (evT t) o.op (fun y H'' => y = x ∧ H'' = H) ∧ cd P S Y O n ops r (putT n t o.dst x) H Q) ∧ (b = false → cd P S Y O n ops r (putT n t o.dst (.tup [])) H Q)
    | none => False

theorem walkA_of_quiet {m : Nat} {L : Array Bool → T → Hp → Prop} {H : Hp} {Q : T → Hp → Prop} : ∀ (l : List Oper) (i : Nat) (listed : Array Bool) (t : T), (∀ j, j < l.length → l[j]? = ops[i + j]?) →
    (∀ t', Q t' H → L ((List.range' i l.length).foldl (fun a j => a.setIfInBounds j true) listed) t' H) → cd P S Y O n ops l t H Q → walkA P S Y O n ops (fun H' => H' = H) m (fun _ => false) L 0 (List.range' i l.length) listed t H
  | [], i, listed, t, _, hL, h => hL t h
  | o :: l, i, listed, t, hl, hL, h => by
    have h0 : ops[i]? = some o := by simpa using (hl 0 (by simp)).symm
    have hl' : ∀ j, j < l.length → l[j]? = ops[(i + 1) + j]? := fun j hj => by have := hl (j + 1) (by simp; omega); simpa [Nat.add_assoc, Nat.add_comm 1 j] using this
    refine ⟨rfl, ?_⟩
    unfold opA
    simp only [h0]
    unfold cd at h
    split at h
    · rename_i b hb
      cases b with
      | true =>
        rw [hb]
        obtain ⟨x, h1, h2⟩ := h.1 rfl
        refine ⟨x, fun H' hH => ?_, walkA_of_quiet l (i + 1) _ _ hl' hL h2⟩
        subst hH
        exact h1
      | false =>
        rw [hb]
        exact walkA_of_quiet l (i + 1) _ _ hl' hL (h.2 rfl)
    · exact h.elim

theorem drawOk_quiet {m : Nat} {t : T} {H : Hp} {Q : T → Hp → Prop} (hB : (drawB ops m (List.range' 0 m) && Region.seqB .any ops (ops.size - m) m ((List.range' 0 m).foldl (fun a j => a.setIfInBounds j true) (Array.replicate ops.size false))) = true)
    (h : cd P S Y O n ops (ops.toList.take m) t H fun t' H' => wpOps P S Y O n ops (ops.toList.drop m) t' H' Q) : DrawOk P S Y O n ops t H Q := by
  rw [Bool.and_eq_true] at hB
  have hm : m < ops.size := by
    have := hB.1
    simp only [drawB, Bool.and_eq_true, decide_eq_true_eq] at this
    exact this.1.1.1.1
  have hl : (ops.toList.take m).length = m := by simp; omega
  refine ⟨m, fun H' => H' = H, fun _ => false, List.range' 0 m, hB.1, rfl, ?_⟩
  rw [List.length_range', Nat.sub_self]
  have := walkA_of_quiet (m := m) (L := fun listed' t' H' => Region.seqB .any ops (ops.size - m) m listed' = true ∧ wpOps P S Y O n ops (ops.toList.drop m) t' H' Q) (ops.toList.take m) 0 (Array.replicate ops.size false) t
    (fun j hj => by rw [hl] at hj; simp [hj]) (fun t' hq => ⟨by rw [hl]; exact hB.2, hq⟩) h
  rwa [hl] at this

end
end Go.Av

namespace Go.Av
open Go.RowKit

def bC (K : T → Hp → Prop) (Q : Exit → T → Hp → Prop) : Exit → T → Hp → Prop
  | .normal, t, H => K t H
  | e, t, H => Q e t H

def bi (id : Nat) (Q : Exit → T → Hp → Prop) : Exit → T → Hp → Prop
  | .exit id', t, H => if id' = id then Q .normal t H else Q (.exit id') t H
  | e, t, H => Q e t H

def noGotoA (Q : Exit → T → Hp → Prop) : Exit → T → Hp → Prop
  | .goto _, _, _ => False
  | e, t, H => Q e t H

def condA (c : V) (X Y : Prop) : Prop := match c with
  | .bool b => (b = true → X) ∧ (b = false → Y)
  | _ => False

def putsT (n : Nat) (t : T) (ps : List Tmp) (args : List V) : T := (ps.zip args).foldl (fun t (p, x) => putT n t (some p) x) t

/-- How a round of a range over a function ends. -/
def bL (l : Nat) (ob : LoopState → Option Code → Obj) (QY : V → Hp → Prop) : Exit → T → Hp → Prop
  | .normal, _, H => (∃ st j, H l = some (.raw (ob st j))) ∧ QY (.bool true) (upd H l (some (.raw (ob .ready none))))
  | .ret, _, H => (∃ st j, H l = some (.raw (ob st j))) ∧ QY (.bool false) (upd H l (some (.raw (ob .done (some .ret)))))
  | .exit id, _, H => (∃ st j, H l = some (.raw (ob st j))) ∧ QY (.bool false) (upd H l (some (.raw (ob .done (some (.exit id))))))
  | .goto x, _, H => (∃ st j, H l = some (.raw (ob st j))) ∧ QY (.bool false) (upd H l (some (.raw (ob .done (some (.goto x))))))
  | _, _, _ => False

def onlyA (K : T → Hp → Prop) : Exit → T → Hp → Prop
  | .normal, t, H => K t H
  | _, _, _ => False

def endA (Q : Exit → T → Hp → Prop) (t : T) (H : Hp) : Option Code → Prop
  | none => Q .normal t H
  | some .ret => Q .ret t H
  | some (.exit id) => Q (.exit id) t H
  | some (.goto x) => Q (.goto x) t H
  | _ => False

def hasBody (P : Program) (f : FuncId) : Bool := match P.funcs[f]? with
  | some fn => fn.body.isSome && !(fn.name == "runtime.NumGoroutine")
  | none => false

theorem cm {P : Program} {f : FuncId} (h : hasBody P f = true) (args : Array Value) (w : World) : (callFunc f args).run P w = .ok (.enter f args) w := by
  unfold hasBody at h
  split at h
  · rename_i fn hf
    simp only [Bool.and_eq_true, Bool.not_eq_true', beq_eq_false_iff_ne] at h
    simp only [callFunc, Sem.run_bind, run_program, Result.andThen_ok, hf]
    have h1 : fn.body.isNone = false := by cases hb : fn.body <;> simp_all
    rw [if_neg (by simpa using h.2), if_neg (by simp [h1])]
    rfl
  · cases h

/-- Blocks behind slots are taken as lasting. -/
def frzA : List Nat → T → Hp → (T → Hp → Prop) → Prop
  | [], t, H, Q => Q t H
  | d :: ds, t, H, Q => ∃ b blk, H b = some blk ∧ lasting blk = true ∧ frzA ds (upd t d (subV b blk (t d))) (upd H b none) Q
section
variable (P : Program) (S : Nat → Spec) (Y : aC) (O : List Nat) (n : Nat)

/-- **CODE.** -/
def wpC : Code → Bool → (Exit → T → Hp → Prop) → T → Hp → Prop
  | .skip, _, Q, t, H => Q .normal t H
  | .label _, _, Q, t, H => Q .normal t H
  | .exit id, _, Q, t, H => Q (.exit id) t H
  | .goto l, _, Q, t, H => Q (.goto l) t H
  | .ret, _, Q, t, H => Q .ret t H
  | .refuse _, _, _, _, _ => False
  | .seq x y, top, Q, t, H => wpC x top (bC (fun t H => ∃ ds, frzA ds t H fun t H => wpC y top Q t H) Q) t H
  | .cond c x y, top, Q, t, H => condA (evT t c) (wpC x top Q t H) (wpC y top Q t H)
  | .block id c, top, Q, t, H => wpC c top (bi id Q) t H
  | .scope c, top, Q, t, H => wpC c top (noGotoA Q) t H
  | .loop c, top, Q, t, H => ∃ I : Nat → T → Hp → Prop, (∃ m, I m t H) ∧ ∀ m t H, I m t H → wpC c top (bC (fun t' H' => ∃ m', m' < m ∧ I m' t' H') Q) t H
  | .region _ ops d, _, Q, t, H => if d = true then DrawOk P S Y O n ops t H (Q .normal) else wpOps P S Y O n ops ops.toList t H (Q .normal)
  | .rangeFunc g ps assign body, top, Q, t, H => top = true ∧ ∃ f first caps, evT t g = .fn (.func f) first caps ∧ hasBody P f = true ∧
      ∀ (l : Nat) (ob : LoopState → Option Code → Obj), H l = none →
        S f (upd Y l fun args H' QY => args.length = ps.size ∧ H' l = some (.raw (ob .ready none)) ∧
              wpC assign false (onlyA fun t₁ H₁ => H₁ l = some (.raw (ob .ready none)) ∧ wpC body false (bL l ob QY) t₁ (upd H₁ l (some (.raw (ob .busy none))))) (putsT n t ps.toList args) H')
          (first ++ [.fn (.yield l) [] []] ++ caps) (upd H l (some (.raw (ob .ready none))))
          (fun _ H' => ∃ st jump, H' l = some (.raw (ob st jump)) ∧ st ≠ .busy ∧ endA Q t (upd H' l none) jump)
end

/-! ### laws -/
section
variable {P : Program} {F : Fence} {n : Nat} {b : Frame} {a : Act} {k : List Item} {cs : List Frame} {w : World}

theorem stepR_scope {c : Code} : step P (lone (b.atR a (.code (.scope c) :: k)) cs w) = .next (lone (b.atR a (.code c :: .inScope c :: k)) cs w) :=
  step_lone_go (by simp [stepG, stepG.exec, Frame.atR])
theorem stepR_inScope {c : Code} : step P (lone (b.atR a (.inScope c :: k)) cs w) = .next (lone (b.atR a k) cs w) :=
  step_lone_go (by simp [stepG, stepG.exec, Frame.atR])

theorem wpIn_scope {c : Code} {Q : Exit → Act → World → Prop} (h : c.wpIn F n P (Exit.noGoto Q) a w) : (Code.scope c).wpIn F n P Q a w := by
  intro b k cs hro hb hr
  have h0 : (lone (b.atR a (.code (.scope c) :: k)) cs w).fenced P F := fenced_calm hb hr rfl
  obtain ⟨e, a₁, w₁, hq, harr⟩ := h b (.inScope c :: k) cs hro hb hr
  cases e with
  | normal => exact ⟨.normal, a₁, w₁, hq, .head h0 stepR_scope (StepsIn.trans harr (.one (fenced_calm hb hr rfl) stepR_inScope))⟩
  | exit id =>
    have hx : exitTo id (.inScope c :: k) = exitTo id k := by simp [exitTo]
    exact ⟨.exit id, a₁, w₁, hq, fun k' hk => .head h0 stepR_scope (harr.1 k' (by rw [hx]; exact hk)),
      fun hr' hk => let ⟨k₁, h1, h2⟩ := harr.2 hr' (by rw [hx]; exact hk); ⟨k₁, h1, .head h0 stepR_scope h2⟩⟩
  | goto l => exact hq.elim
  | ret => exact ⟨_, a₁, w₁, hq, .of_steps (.one h0 stepR_scope) harr⟩
  | panic ch => exact ⟨_, a₁, w₁, hq, .of_steps (.one h0 stepR_scope) harr⟩
  | outgrown => exact ⟨_, a₁, w₁, hq, .of_steps (.one h0 stepR_scope) harr⟩

theorem wpIn_loop_ix {c : Code} {Q : Exit → Act → World → Prop} (J : Nat → Act → World → Prop) {m : Nat} (h₀ : J m a w)
    (round : ∀ m a w, J m a w → c.wpIn F n P (Exit.then (fun a' w' => ∃ m', m' < m ∧ J m' a' w') Q) a w) : (Code.loop c).wpIn F n P Q a w := by
  intro b k cs hro hb hr
  have key : ∀ j a w, J j a w →
      ∃ e a' w', Q e a' w' ∧ ArrivesIn (Machine.fenced P F) P (lone (b.atR a (.code c :: .inLoop c :: k)) cs w) b k cs e a' w' := by
    intro j
    induction j using Nat.strongRecOn with
    | _ j ih =>
      intro a w hI
      obtain ⟨e, a₁, w₁, hq, harr⟩ := round j a w hI b (.inLoop c :: k) cs hro hb hr
      cases e with
      | normal =>
        obtain ⟨m', hlt, hI₁⟩ := hq
        obtain ⟨e₂, a₂, w₂, hq₂, harr₂⟩ := ih m' hlt a₁ w₁ hI₁
        exact ⟨e₂, a₂, w₂, hq₂, .of_steps (StepsIn.trans harr (.one (fenced_calm hb hr rfl) stepR_inLoop)) harr₂⟩
      | exit id => exact ⟨_, a₁, w₁, hq, .pass (x := .inLoop c) rfl (fun _ _ => .inl (by simp)) harr⟩
      | goto l => exact ⟨_, a₁, w₁, hq, .pass (x := .inLoop c) rfl (fun _ _ => .inl (by simp)) harr⟩
      | ret => exact ⟨_, a₁, w₁, hq, .pass (x := .inLoop c) rfl (fun _ _ => .inl (by simp)) harr⟩
      | panic ch => exact ⟨_, a₁, w₁, hq, .pass (x := .inLoop c) rfl (fun _ _ => .inl (by simp)) harr⟩
      | outgrown => exact ⟨_, a₁, w₁, hq, .pass (x := .inLoop c) rfl (fun _ _ => .inl (by simp)) harr⟩
  obtain ⟨e, a', w', hq, harr⟩ := key m a w h₀
  exact ⟨e, a', w', hq, .of_steps (.one (fenced_calm hb hr rfl) stepR_loop) harr⟩
end

/-- The marks among the deferred calls. -/
def Mk (lo : Nat) (ds : List Deferred) (H : Hp) (w : World) : Prop :=
  ds.Pairwise (fun x y => x.target ≠ y.target) ∧ ∀ d ∈ ds, ∃ r, d.target = .collected r ∧ lo ≤ r ∧ r < w.heap.size ∧ H r = none ∧ w.heap[r]? = some (.deferred (some []))

theorem Mk.fr {lo : Nat} {ds : List Deferred} {H H' : Hp} {w w' : World} (h : Mk lo ds H w) (hf : Fr H w H' w') : Mk lo ds H' w' :=
  ⟨h.1, fun d hd => by
    obtain ⟨r, h1, h2, h3, h4, h5⟩ := h.2 d hd
    exact ⟨r, h1, h2, Nat.lt_of_lt_of_le h3 hf.size, hf.dom r h3 h4, (hf.same r h3 h4).trans h5⟩⟩

def StPostE (k : K) (H : Hp) (w : World) (n lo : Nat) (Q : Exit → T → Hp → Prop) (e : Exit) (a' : Act) (w' : World) : Prop :=
  ∃ t' H' k', Q e t' H' ∧ k.le k' ∧ Rel k' H' w' ∧ RelT k' n a' t' ∧ Fr H w H' w' ∧ Mk lo a'.defers H' w'

theorem StPostE.trans {k k₁ : K} {H H₁ : Hp} {w w₁ : World} {n lo : Nat} {Q : Exit → T → Hp → Prop} {e : Exit} {a' : Act} {w' : World} (hk : k.le k₁) (hf : Fr H w H₁ w₁) (h : StPostE k₁ H₁ w₁ n lo Q e a' w') : StPostE k H w n lo Q e a' w' := by
  obtain ⟨t', H', k', a, b, c, d, e, f⟩ := h
  exact ⟨t', H', k', a, hk.trans b, c, d, hf.trans e, f⟩

theorem StPostE.of {k : K} {H : Hp} {w : World} {n lo : Nat} {Q : Exit → T → Hp → Prop} {e : Exit} {a : Act} {t : T} (hr : Rel k H w) (hT : RelT k n a t) (hm : Mk lo a.defers H w) (h : Q e t H) : StPostE k H w n lo Q e a w :=
  ⟨t, H, k, h, K.le.refl _, hr, hT, Fr.refl _ _, hm⟩

theorem StPost.toE {k : K} {H : Hp} {w : World} {n lo : Nat} {Q : Exit → T → Hp → Prop} {a a' : Act} {w' : World} (hm : Mk lo a.defers H w) (h : StPost k H w n a.defers (Q .normal) a' w') : StPostE k H w n lo Q .normal a' w' := by
  obtain ⟨t', H', k', b1, b2, b3, b4, b5, b6⟩ := h
  exact ⟨t', H', k', b1, b2, b3, b4, b5, by rw [b6]; exact hm.fr b5⟩

theorem RelT.puts {k : K} {n : Nat} : ∀ (ps : List Tmp) (vs : List Value) (xs : List V) {a : Act} {t : T}, RelT k n a t → xs.length = vs.length → (∀ (j : Nat) v x, vs[j]? = some v → xs[j]? = some x → Conc k v x) →
    RelT k n { a with tmps := (ps.zip vs).foldl (fun tmps (t, a) => tmps.setIfInBounds t a) a.tmps } (putsT n t ps xs)
  | [], _, _, _, _, h, _, _ => h
  | _ :: _, [], [], _, _, h, _, _ => h
  | p :: ps, v :: vs, x :: xs, a, t, h, hl, hc => by
    have h1 := h.put (hc 0 v x rfl rfl) (some p)
    have h2 := RelT.puts ps vs xs h1 (by simpa using hl) (fun j v x a b => hc (j + 1) v x (by simpa using a) (by simpa using b))
    exact h2

theorem Rel.setRaw {k : K} {H : Hp} {w : World} (hr : Rel k H w) {l : Nat} {o o' : Obj} (hl : H l = some (.raw o)) (ho : ∀ cs e fr, o' ≠ .cells cs e fr) :
    Rel k (upd H l (some (.raw o'))) (w.putObj l o') ∧ Fr H w (upd H l (some (.raw o'))) (w.putObj l o') := by
  have hlt := hr.lt hl
  have hraw : w.heap[l]? = some o ∧ ∀ cs e fr, o ≠ .cells cs e fr := hr.own l _ hl
  refine ⟨⟨fun b o₁ v hm => ?_, fun b c hR => ?_, fun b x hb => ?_⟩, ⟨rfl, rfl, rfl, by simp, fun b hb hn => ?_, fun b hb hn => ?_⟩⟩
  · obtain ⟨h1, h2⟩ := hr.imm b o₁ v hm
    have hne : b ≠ l := fun e => by subst e; rw [h2] at hl; cases hl
    exact ⟨by rw [cell?_of_heap (World.putObj_heap_other hne)]; exact h1, by rw [ah _ _ _ hne]; exact h2⟩
  · obtain ⟨cs, e, fr, h1, h2⟩ := hr.rows b c hR
    have hne : b ≠ l := fun e' => by subst e'; rw [h1] at hraw; cases hraw.1; exact hraw.2 _ _ _ rfl
    exact ⟨cs, e, fr, by rw [World.putObj_heap_other hne]; exact h1, h2⟩
  · by_cases e : b = l
    · subst e
      rw [upd_same] at hb
      cases hb
      exact ⟨World.putObj_heap_same hlt, ho⟩
    · rw [ah _ _ _ e] at hb
      exact (hr.own b x hb).mono (K.le.refl _) (World.putObj_heap_other e)
  · have hne : b ≠ l := fun e => by subst e; rw [hn] at hl; cases hl
    exact World.putObj_heap_other hne
  · have hne : b ≠ l := fun e => by subst e; rw [hn] at hl; cases hl
    rw [ah _ _ _ hne]; exact hn

end Go.Av

namespace Go.Av
open Go.RowKit

/-- What is asked, at every start. -/
def CSound (P : Program) (S : Nat → Spec) (O : List Nat) (n : Nat) (c : Code) : Prop :=
  ∀ (top : Bool) (ro : Option Nat), (top = true → ro = none) → ∀ (Y : aC) (k : K), YSound P k Y → ∀ (H : Hp) (w : World), Rel k H w → ∀ (a : Act) (t : T), RelT k n a t → ∀ (lo : Nat), Mk lo a.defers H w → lo ≤ w.heap.size →
    ∀ Q, wpC P S Y O n c top Q t H → c.wpIn (FR ro) 0 P (StPostE k H w n lo Q) a w

section
variable {P : Program} {S : Nat → Spec} {O : List Nat} {n : Nat}

theorem frz_sound {lo : Nat} {Q : T → Hp → Prop} : ∀ (ds : List Nat) {k : K} {H : Hp} {w : World} (_ : Rel k H w) {a : Act} {t : T} (_ : RelT k n a t) (_ : Mk lo a.defers H w), frzA ds t H Q →
    ∃ t2 H2 k2, Q t2 H2 ∧ k.le k2 ∧ Rel k2 H2 w ∧ RelT k2 n a t2 ∧ Fr H w H2 w ∧ Mk lo a.defers H2 w
  | [], k, H, w, hr, a, t, hT, hm, h => ⟨t, H, k, h, K.le.refl _, hr, hT, Fr.refl _ _, hm⟩
  | d :: ds, k, H, w, hr, a, t, hT, hm, ⟨b, blk, hb, hl, h⟩ => by
    obtain ⟨k1, g1, g2, g3⟩ := freeze hr hb hl
    have hf : Fr H w (upd H b none) w := Fr.dropOne b
    have hT1 : RelT k1 n a (upd t d (subV b blk (t d))) := ⟨hT.1, fun i => by
      by_cases e : i = d
      · subst e; rw [upd_same]; exact g3 _ _ (hT.2 i)
      · rw [ah _ _ _ e]; exact (hT.2 i).mono g1⟩
    obtain ⟨t2, H2, k2, c1, c2, c3, c4, c5, c6⟩ := frz_sound ds g2 hT1 (hm.fr hf) h
    exact ⟨t2, H2, k2, c1, g1.trans c2, c3, c4, hf.trans c5, c6⟩

theorem seq_sound {x y : Code} (hx : CSound P S O n x) (hy : CSound P S O n y) : CSound P S O n (.seq x y) := by
  intro top ro ht Y k hY H w hr a t hT lo hmk hlo Q h
  unfold wpC at h
  refine wpIn_seq (wpIn_mono (hx top ro ht Y k hY H w hr a t hT lo hmk hlo _ h) fun e a' w' hp => ?_)
  obtain ⟨t', H', k', b1, b2, b3, b4, b5, b6⟩ := hp
  cases e with
  | normal =>
    obtain ⟨ds, b1⟩ := b1
    obtain ⟨t2, H2, k2, c1, c2, c3, c4, c5, c6⟩ := frz_sound ds b3 b4 b6 b1
    exact wpIn_mono (hy top ro ht Y k2 (hY.mono (b2.trans c2)) H2 w' c3 a' t2 c4 lo c6 (Nat.le_trans hlo b5.size) Q c1) fun e a'' w'' hp => (hp.trans c2 c5).trans b2 b5
  | _ => exact ⟨t', H', k', b1, b2, b3, b4, b5, b6⟩

theorem block_sound {id : Nat} {c : Code} (hc : CSound P S O n c) : CSound P S O n (.block id c) := by
  intro top ro ht Y k hY H w hr a t hT lo hmk hlo Q h
  unfold wpC at h
  refine wpIn_block (wpIn_mono (hc top ro ht Y k hY H w hr a t hT lo hmk hlo _ h) fun e a' w' hp => ?_)
  obtain ⟨t', H', k', b1, b2, b3, b4, b5, b6⟩ := hp
  cases e with
  | exit id' =>
    simp only [bi] at b1
    simp only [Exit.inBlock]
    split
    · rename_i hi; rw [if_pos hi] at b1; exact ⟨t', H', k', b1, b2, b3, b4, b5, b6⟩
    · rename_i hi; rw [if_neg hi] at b1; exact ⟨t', H', k', b1, b2, b3, b4, b5, b6⟩
  | _ => exact ⟨t', H', k', b1, b2, b3, b4, b5, b6⟩

theorem scope_sound {c : Code} (hc : CSound P S O n c) : CSound P S O n (.scope c) := by
  intro top ro ht Y k hY H w hr a t hT lo hmk hlo Q h
  unfold wpC at h
  refine wpIn_scope (wpIn_mono (hc top ro ht Y k hY H w hr a t hT lo hmk hlo _ h) fun e a' w' hp => ?_)
  obtain ⟨t', H', k', b1, b2, b3, b4, b5, b6⟩ := hp
  cases e with
  | goto l => exact b1.elim
  | _ => exact ⟨t', H', k', b1, b2, b3, b4, b5, b6⟩

theorem cond_sound {o : Operand} {x y : Code} (hx : CSound P S O n x) (hy : CSound P S O n y) : CSound P S O n (.cond o x y) := by
  intro top ro ht Y k hY H w hr a t hT lo hmk hlo Q h
  unfold wpC condA at h
  split at h
  · rename_i b hb
    have hc := hT.eval o
    rw [hb] at hc
    generalize hv : a.eval o = v at hc
    cases hc
    exact wpIn_cond_split hv (fun e => hx top ro ht Y k hY H w hr a t hT lo hmk hlo Q (h.1 e)) (fun e => hy top ro ht Y k hY H w hr a t hT lo hmk hlo Q (h.2 e))
  · exact h.elim

theorem loop_sound {c : Code} (hc : CSound P S O n c) : CSound P S O n (.loop c) := by
  intro top ro ht Y k hY H w hr a t hT lo hmk hlo Q h
  unfold wpC at h
  obtain ⟨I, ⟨m, hI⟩, hround⟩ := h
  refine wpIn_loop_ix (fun m a' w' => ∃ t' H' k', I m t' H' ∧ k.le k' ∧ Rel k' H' w' ∧ RelT k' n a' t' ∧ Fr H w H' w' ∧ Mk lo a'.defers H' w') (m := m) ⟨t, H, k, hI, K.le.refl _, hr, hT, Fr.refl _ _, hmk⟩ ?_
  rintro m a' w' ⟨t', H', k', b1, b2, b3, b4, b5, b6⟩
  refine wpIn_mono (hc top ro ht Y k' (hY.mono b2) H' w' b3 a' t' b4 lo b6 (Nat.le_trans hlo b5.size) _ (hround m t' H' b1)) fun e a'' w'' hp => ?_
  have hp := hp.trans b2 b5
  cases e with
  | normal =>
    obtain ⟨t₂, H₂, k₂, ⟨m', c0, c1⟩, c2, c3, c4, c5, c6⟩ := hp
    exact ⟨m', c0, t₂, H₂, k₂, c1, c2, c3, c4, c5, c6⟩
  | _ => exact hp

theorem region_sound (hm : P.follows .mixedOrders = true) (hS : TSound P S) {id : Nat} {ops : Array Oper} {d : Bool} : CSound P S O n (.region id ops d) := by
  intro top ro ht Y k hY H w hr a t hT lo hmk hlo Q h
  unfold wpC at h
  cases d with
  | true =>
    rw [if_pos rfl] at h
    exact wpDraw_sound hm hS hY hr hT h fun a' w' hp => hp.toE hmk
  | false =>
    rw [if_neg (by simp)] at h
    exact wpRegion_sound hS hY hr hT h fun a' w' hp => hp.toE hmk

/-- A round of a range over a function, out of its two pieces of code. -/
theorem round_sound {assign body : Code} (ha : CSound P S O n assign) (hb : CSound P S O n body) {Y : aC} {k₀ : K} (hY : YSound P k₀ Y) {a : Act} {t : T} (hT : RelT k₀ n a t) {l : Nat} {ob : LoopState → Option Code → Obj} {fn : FuncId} {ps : Array Tmp} {dl : Nat}
    (hob : ob = fun st p => .loop { state := st, pending := p, fn, tmps := a.tmps, params := ps, assign, body, defers := dl })
    {args : List V} {H : Hp} {QY : V → Hp → Prop} (hl : args.length = ps.size) (hH : H l = some (.raw (ob .ready none)))
    (h : wpC P S Y O n assign false (onlyA fun t₁ H₁ => H₁ l = some (.raw (ob .ready none)) ∧ wpC P S Y O n body false (bL l ob QY) t₁ (upd H₁ l (some (.raw (ob .busy none))))) (putsT n t ps.toList args) H)
    {k : K} {w : World} {cargs : Array Value} (hk : k₀.le k) (hr : Rel k H w) (hc : ConcL k cargs args) :
    ∃ f tmps assign body, (Instr.yield l cargs).run P w = .ok (.round l f tmps assign body) w ∧ RoundIn Fence.wide 0 P l f tmps assign body w fun e w' => ∃ v, e = .returned v ∧ OpPost k H w QY v w' := by
  have hraw : ∀ st p cs e fr, ob st p ≠ .cells cs e fr := by subst hob; intro st p cs e fr h; cases h
  have hw : w.heap[l]? = some (ob .ready none) := (hr.own l _ hH).1
  rw [hob] at hw
  refine ⟨_, _, _, _, run_yield hw (by simp only; rw [← hc.1, hl]), ?_⟩
  refine roundIn_of_wpIn trivial ?_
  have hT' : RelT k n { tmps := (ps.zip cargs).foldl (fun tmps (t, a) => tmps.setIfInBounds t a) a.tmps, defers := [] } (putsT n t ps.toList args) := by
    have := RelT.puts ps.toList cargs.toList args (a := { a with defers := [] }) (t := t) (hT.mono hk) (by simpa using hc.1) (fun j v x a b => hc.2 j v x (by simpa using a) b)
    rw [← Array.foldl_toList, Array.toList_zip]
    exact this
  have hmk0 : ∀ (H : Hp) (w : World), Mk 0 [] H w := fun H w => ⟨List.Pairwise.nil, fun d hd => by cases hd⟩
  have h1 := ha false (some l) (by simp) Y k (hY.mono hk) H w hr _ _ hT' 0 (hmk0 _ _) (Nat.zero_le _) _ h
  refine wpIn_mono h1 fun e a₁ w₁ hp => ?_
  obtain ⟨t₁, H₁, k₁, b1, b2, b3, b4, b5, b6⟩ := hp
  cases e with
  | normal =>
    obtain ⟨c1, c2⟩ := b1
    have hw₁ : w₁.heap[l]? = some (ob .ready none) := (b3.own l _ c1).1
    have hw₁' := hw₁
    rw [hob] at hw₁'
    refine ⟨_, run_beginRound hw₁' rfl, ?_⟩
    obtain ⟨r1, r2⟩ := b3.setRaw c1 (hraw .busy none)
    have h2 := hb false (some l) (by simp) Y k₁ (hY.mono (hk.trans b2)) _ _ r1 a₁ t₁ b4 0 (b6.fr r2) (Nat.zero_le _) _ c2
    rw [hob] at h2
    refine wpIn_mono h2 fun e a₂ w₂ hp => ?_
    obtain ⟨t₂, H₂, k₂, d1, d2, d3, d4, d5, d6⟩ := hp
    rw [← hob] at d1 d5
    have fin : ∀ (jump : Option Code) (QY' : Bool), (∃ st j, H₂ l = some (.raw (ob st j))) → QY (.bool jump.isNone) (upd H₂ l (some (.raw (ob (if jump.isNone then .ready else .done) jump)))) →
        ∃ v w', (Instr.endRound l jump).run P w₂ = .ok v w' ∧ ∃ v', Ending.returned v = .returned v' ∧ OpPost k H w QY v' w' := by
      rintro jump _ ⟨st, j, hj⟩ hq
      have hw₂ : w₂.heap[l]? = some (ob st j) := (d3.own l _ hj).1
      rw [hob] at hw₂
      obtain ⟨s1, s2⟩ := d3.setRaw hj (hraw (if jump.isNone then .ready else .done) jump)
      refine ⟨_, _, run_endRound jump hw₂, _, rfl, _, _, k₂, hq, b2.trans d2, ?_, .bool _, ?_⟩
      · rw [hob] at s1 ⊢; exact s1
      · rw [hob] at s2 r2 d5 ⊢; exact ((b5.trans r2).trans d5).trans s2
    cases e with
    | normal => exact fin none true d1.1 d1.2
    | ret => exact fin (some .ret) true d1.1 d1.2
    | exit id => exact fin (some (.exit id)) true d1.1 d1.2
    | goto x => exact fin (some (.goto x)) true d1.1 d1.2
    | panic c => exact d1.elim
    | outgrown => exact d1.elim
  | _ => exact b1.elim

end
end Go.Av

namespace Go.Av
open Go.RowKit

theorem aD {α : Type} (f : Nat → α) (i : Nat) (x y : α) : upd (upd f i x) i y = upd f i y := by
  funext j
  simp only [upd_apply]
  split <;> rfl

section
variable {P : Program} {S : Nat → Spec} {O : List Nat} {n : Nat}

theorem rangeFunc_sound (hS : TSound P S) {g : Operand} {ps : Array Tmp} {assign body : Code} (ha : CSound P S O n assign) (hb : CSound P S O n body) : CSound P S O n (.rangeFunc g ps assign body) := by
  intro top ro ht Y k hY H w hr a t hT lo hmk hlo Q h
  unfold wpC at h
  obtain ⟨htop, f, first, caps, hev, hbody, h⟩ := h
  have hro := ht htop
  subst hro
  have hfv := hT.eval g
  rw [hev] at hfv
  cases hv : a.eval g <;> rw [hv] at hfv <;> cases hfv
  rename_i fa fc i1 i2 i3 i4
  refine wpIn_rangeFunc fun fn _ => ?_
  have hsz : (w.alloc (.deferred (some []))).heap.size = w.heap.size + 1 := by simp
  have hl : H (w.heap.size + 1) = none := by rw [← hsz]; exact (hr.alloc_plain (.deferred (some []))).fresh
  have hd : H w.heap.size = none := hr.fresh
  obtain ⟨ob, hob⟩ : ∃ ob : LoopState → Option Code → Obj, ob = fun st p => .loop { state := st, pending := p, fn := fn, tmps := a.tmps, params := ps, assign, body, defers := w.heap.size } := ⟨_, rfl⟩
  have h := h (w.heap.size + 1) ob hl
  have hraw : ∀ st p cs e fr, ob st p ≠ .cells cs e fr := by subst hob; intro st p cs e fr h; cases h
  have hr1 : Rel k (upd H (w.heap.size + 1) (some (.raw (ob .ready none)))) ((w.alloc (.deferred (some []))).alloc (ob .ready none)) := by
    have := (hr.alloc_plain (.deferred (some []))).alloc_own (ob .ready none) (.raw (ob .ready none)) ⟨bW _ _, hraw _ _⟩
    rwa [hsz] at this
  have hf1 : Fr H w (upd H (w.heap.size + 1) (some (.raw (ob .ready none)))) ((w.alloc (.deferred (some []))).alloc (ob .ready none)) := by
    have := (Fr.alloc_plain H w (.deferred (some []))).trans (Fr.alloc_own (H := H) (w := w.alloc (.deferred (some []))) (ob .ready none) (some (.raw (ob .ready none))))
    rwa [hsz] at this
  have hmk1 : Mk lo ([{ target := .collected w.heap.size, args := #[] }] ++ a.defers) (upd H (w.heap.size + 1) (some (.raw (ob .ready none)))) ((w.alloc (.deferred (some []))).alloc (ob .ready none)) := by
    refine ⟨List.Pairwise.cons (fun d hd e => ?_) hmk.1, fun d hd' => ?_⟩
    · obtain ⟨r, g1, _, g2, _⟩ := hmk.2 d hd
      rw [g1] at e
      cases e
      exact absurd g2 (Nat.lt_irrefl _)
    · rcases List.mem_cons.1 hd' with rfl | hd'
      · refine ⟨w.heap.size, rfl, hlo, by simp only [World.size_alloc]; omega, ?_, ?_⟩
        · rw [ah _ _ _ (by omega)]; exact hd
        · rw [cl _ _ (by simp)]; exact bW _ _
      · exact (hmk.fr hf1).2 d hd'
  have hY1 : YSound P k (upd Y (w.heap.size + 1) fun args H' QY => args.length = ps.size ∧ H' (w.heap.size + 1) = some (.raw (ob .ready none)) ∧
      wpC P S Y O n assign false (onlyA fun t₁ H₁ => H₁ (w.heap.size + 1) = some (.raw (ob .ready none)) ∧ wpC P S Y O n body false (bL (w.heap.size + 1) ob QY) t₁ (upd H₁ (w.heap.size + 1) (some (.raw (ob .busy none))))) (putsT n t ps.toList args) H') := by
    intro l args H₁ Q₁ hy k₁ w₁ cargs g1 g2 g3
    by_cases e : l = w.heap.size + 1
    · subst e
      rw [upd_same] at hy
      exact round_sound ha hb hY hT hob hy.1 hy.2.1 hy.2.2 g1 g2 g3
    · rw [ah _ _ _ e] at hy
      exact hY l args H₁ Q₁ hy k₁ w₁ cargs g1 g2 g3
  have hargs : ConcL k (fa ++ #[.func (.yield (w.heap.size + 1)) #[] #[]] ++ fc) (first ++ [.fn (.yield (w.heap.size + 1)) [] []] ++ caps) :=
    (ConcL.append ⟨i1, i2⟩ ⟨rfl, fun j v x p q => by
      cases j with
      | zero => simp at p q; subst p; subst q; exact .fn _ #[] #[] [] [] rfl rfl (fun j v x hj _ => by simp at hj) (fun j v x hj _ => by simp at hj)
      | succ j => simp at p⟩).append ⟨i3, i4⟩
  have hcall := hS f _ _ _ _ h k _ _ hY1 hr1 hargs
  rcases hcall with ⟨v, w', c1, _⟩ | ⟨_, hcall⟩
  · rw [cm hbody] at c1; cases c1
  · have hobr : ob .ready none = .loop { state := .ready, pending := none, fn := fn, tmps := a.tmps, params := ps, assign, body, defers := w.heap.size } := by rw [hob]
    refine ⟨w.heap.size + 1, [{ target := .collected w.heap.size, args := #[] }], (w.alloc (.deferred (some []))).alloc (ob .ready none), { target := .fn (.func f) fc, args := fa ++ #[.func (.yield (w.heap.size + 1)) #[] #[]] }, (w.alloc (.deferred (some []))).alloc (ob .ready none), f, fa ++ #[.func (.yield (w.heap.size + 1)) #[] #[]] ++ fc, (w.alloc (.deferred (some []))).alloc (ob .ready none), ?_, ?_, fun _ _ => trivial, ?_, by simp [FR, Fence.wide], ?_⟩
    · rw [hobr]; exact run_enterLoop_outer fn a.tmps ps assign body
    · have hy : Array.map a.eval #[Operand.const (Value.func (Fn.yield (w.heap.size + 1)) #[] #[])] = #[Value.func (Fn.yield (w.heap.size + 1)) #[] #[]] := by simp [Act.eval]
      simp only [resolve, hv, Deferred.ofValue, Sem.run_pure, hy]
    · simp only [invoke]
      exact cm hbody _ _
    · refine CallsIn.mono hcall fun e w₂ he => ?_
      obtain ⟨v, rfl, x, H', k', ⟨st, jump, d1, d2, d3⟩, e2, e3, _, e5⟩ := he
      have hw₂ : w₂.heap[w.heap.size + 1]? = some (ob st jump) := (e3.own _ _ d1).1
      rw [hob] at hw₂
      obtain ⟨s1, s2⟩ := e3.setRaw d1 (hraw .exhausted jump)
      refine ⟨jump, _, run_endLoop hw₂ d2, ?_⟩
      have hr4 : Rel k' (upd H' (w.heap.size + 1) none) (w₂.putObj (w.heap.size + 1) (ob .exhausted jump)) := by
        have := s1.dropOne (w.heap.size + 1)
        rwa [aD] at this
      have hf3 : Fr (upd H (w.heap.size + 1) (some (.raw (ob .ready none)))) ((w.alloc (.deferred (some []))).alloc (ob .ready none)) (upd H' (w.heap.size + 1) none) (w₂.putObj (w.heap.size + 1) (ob .exhausted jump)) := by
        have := (e5.trans s2).trans (Fr.dropOne (w.heap.size + 1))
        rwa [aD] at this
      have fin : ∀ e, Q e t (upd H' (w.heap.size + 1) none) → StPostE k H w n lo Q e { a with defers := [{ target := .collected w.heap.size, args := #[] }] ++ a.defers } (w₂.putObj (w.heap.size + 1) (ob .exhausted jump)) := fun e hq =>
        ⟨t, _, k', hq, e2, hr4, ⟨hT.1, (hT.mono e2).2⟩, hf1.trans hf3, hmk1.fr hf3⟩
      rw [hob] at fin
      cases jump with
      | none => exact fin .normal d3
      | some c =>
        cases c with
        | ret => exact wpIn_ret (fin .ret d3)
        | exit id => exact wpIn_exit (fin (.exit id) d3)
        | goto x => exact wpIn_goto (fin (.goto x) d3)
        | _ => exact d3.elim

/-- **CODE IS SOUND.** -/
theorem wpC_sound (hm : P.follows .mixedOrders = true) (hS : TSound P S) (c : Code) : CSound P S O n c := by
  induction c with
  | skip => intro top ro ht Y k hY H w hr a t hT lo hmk hlo Q h; exact wpIn_skip (StPostE.of hr hT hmk h)
  | label l => intro top ro ht Y k hY H w hr a t hT lo hmk hlo Q h; exact wpIn_label (StPostE.of hr hT hmk h)
  | exit id => intro top ro ht Y k hY H w hr a t hT lo hmk hlo Q h; exact wpIn_exit (StPostE.of hr hT hmk h)
  | goto l => intro top ro ht Y k hY H w hr a t hT lo hmk hlo Q h; exact wpIn_goto (StPostE.of hr hT hmk h)
  | ret => intro top ro ht Y k hY H w hr a t hT lo hmk hlo Q h; exact wpIn_ret (StPostE.of hr hT hmk h)
  | refuse s => intro top ro ht Y k hY H w hr a t hT lo hmk hlo Q h; exact h.elim
  | seq x y hx hy => exact seq_sound hx hy
  | cond o x y hx hy => exact cond_sound hx hy
  | block id c hc => exact block_sound hc
  | scope c hc => exact scope_sound hc
  | loop c hc => exact loop_sound hc
  | region id ops d => exact region_sound hm hS
  | rangeFunc g ps assign body ha hb => exact rangeFunc_sound hS ha hb

end
end Go.Av

namespace Go.Av
open Go.RowKit

/-! ### results -/
def resV (P : Program) (t : T) (H : Hp) : ResultVar → Option V
  | .tmp i => some (t i)
  | .cell a ty => (aK H (t a)).bind fun (c, o) => ldc (tyT P ty) c o

def ressV (P : Program) (t : T) (H : Hp) : List ResultVar → Option (List V)
  | [] => some []
  | r :: rs => (resV P t H r).bind fun x => (ressV P t H rs).map (x :: ·)

def oneV : List V → V
  | [x] => x
  | xs => .tup xs

def resSem (tmps : Array Value) : ResultVar → Sem Value
  | .tmp t => pure (tmps.getD t undef)
  | .cell a t => do loadVar t (← asAddr (tmps.getD a undef))

theorem resV_sound {P : Program} {k : K} {H : Hp} {w : World} (hr : Rel k H w) {n : Nat} {a : Act} {t : T} (hT : RelT k n a t) {r : ResultVar} {x : V} (h : resV P t H r = some x) :
    ∃ v, (resSem a.tmps r).run P w = .ok v w ∧ Conc k v x := by
  cases r with
  | tmp i => cases h; exact ⟨_, rfl, hT.2 i⟩
  | cell a' ty =>
    simp only [resV, Option.bind_eq_some_iff] at h
    obtain ⟨⟨c, o⟩, h1, h2⟩ := h
    obtain ⟨u, g1, g2⟩ := load_sound hr (hT.2 a') h1 h2
    obtain ⟨b, o', hv, _⟩ := ptrCells_sound hr (hT.2 a') h1
    refine ⟨u, ?_, g2⟩
    simp only [resSem]
    rw [hv] at g1 ⊢
    exact g1

theorem ressV_sound {P : Program} {k : K} {H : Hp} {w : World} (hr : Rel k H w) {n : Nat} {a : Act} {t : T} (hT : RelT k n a t) : ∀ (rs : List ResultVar) (xs : List V), ressV P t H rs = some xs →
    ∃ vs : List Value, (rs.mapM (resSem a.tmps)).run P w = .ok vs w ∧ vs.length = xs.length ∧ ∀ (j : Nat) v x, vs[j]? = some v → xs[j]? = some x → Conc k v x
  | [], xs, h => by cases h; exact ⟨[], rfl, rfl, fun j v x hj _ => by simp at hj⟩
  | r :: rs, xs, h => by
    simp only [ressV, Option.bind_eq_some_iff, Option.map_eq_some_iff] at h
    obtain ⟨x, h1, ys, h2, rfl⟩ := h
    obtain ⟨v, g1, g2⟩ := resV_sound hr hT h1
    obtain ⟨vs, g3, g4, g5⟩ := ressV_sound hr hT rs ys h2
    refine ⟨v :: vs, ?_, by simp [g4], fun j u y p q => ?_⟩
    · rw [List.mapM_cons]
      simp only [Sem.run_bind, g1, Result.andThen_ok, g3, Sem.run_pure]
    · cases j with
      | zero => simp at p q; subst p; subst q; exact g2
      | succ j => exact g5 j u y (by simpa using p) (by simpa using q)

theorem results_sound {P : Program} {k : K} {H : Hp} {w : World} (hr : Rel k H w) {n : Nat} {a : Act} {t : T} (hT : RelT k n a t) {fn : Func} {xs : List V} (h : ressV P t H fn.results.toList = some xs) :
    ∃ v, (results fn a.tmps).run P w = .ok v w ∧ Conc k v (oneV xs) := by
  obtain ⟨vs, g1, g2, g3⟩ := ressV_sound hr hT _ _ h
  have hm : (fn.results.mapM (resSem a.tmps)).run P w = .ok vs.toArray w := by
    rw [Array.mapM_eq_mapM_toList]
    simp only [map_eq_pure_bind, Sem.run_bind, g1, Result.andThen_ok, Sem.run_pure]
  have he : results fn a.tmps = (do
      let vs ← fn.results.mapM (resSem a.tmps)
      pure (if h : vs.size = 1 then vs[0] else .tuple vs)) := by
    unfold results
    congr 2
  rw [he]
  simp only [Sem.run_bind, hm, Result.andThen_ok, Sem.run_pure]
  refine ⟨_, rfl, ?_⟩
  clear hm g1 he
  cases vs with
  | nil =>
    cases xs with
    | nil => exact .tup _ _ rfl (fun j v x hj _ => by simp at hj)
    | cons x xs => simp at g2
  | cons v vs =>
    cases xs with
    | nil => simp at g2
    | cons x xs =>
      cases vs with
      | nil =>
        cases xs with
        | nil => exact g3 0 v x rfl rfl
        | cons y ys => simp at g2
      | cons u us =>
        cases xs with
        | nil => simp at g2
        | cons y ys =>
          simp only [oneV]
          rw [dif_neg (by simp)]
          exact .tup _ _ (by simpa using g2.symm) (fun j v x p q => g3 j v x (by simpa using p) q)

def initT (args : List V) : T := fun i => (args[i]?).getD (.tup [])

theorem initT_rel {k : K} {vs : Array Value} {xs : List V} (h : ConcL k vs xs) {n : Nat} (hn : xs.length ≤ n) : RelT k n { tmps := vs ++ Array.replicate (n - vs.size) undef, defers := [] } (initT xs) := by
  obtain ⟨h1, h2⟩ := h
  refine ⟨by simp; omega, fun i => ?_⟩
  simp only
  rw [Array.getD_eq_getD_getElem?]
  by_cases hi : i < vs.size
  · rw [Array.getElem?_append_left hi, Array.getElem?_eq_getElem hi]
    have hx : i < xs.length := by omega
    simp only [initT, List.getElem?_eq_getElem hx, Option.getD_some]
    exact h2 i _ _ (Array.getElem?_eq_getElem hi) (List.getElem?_eq_getElem hx)
  · have hx : xs[i]? = none := List.getElem?_eq_none (by omega)
    simp only [initT, hx, Option.getD_none]
    rw [Array.getElem?_append_right (by omega), Array.getElem?_replicate]
    split <;> exact .tup _ _ rfl (fun j v x hj _ => by simp at hj)

/-- What the body must come to. -/
def aB (P : Program) (rs : List ResultVar) (Q : V → Hp → Prop) : Exit → T → Hp → Prop
  | .normal, t, H | .ret, t, H => ∃ xs, ressV P t H rs = some xs ∧ ∃ B, sealA B (oneV xs) H Q
  | _, _, _ => False

end Go.Av

namespace Go.Av
open Go.RowKit

theorem Rel.shut {k : K} {H : Hp} {w : World} (hr : Rel k H w) {r : Nat} {ds : List Deferred} (hw : w.heap[r]? = some (.deferred (some ds))) (hn : H r = none) : Rel k H (w.putObj r (.deferred none)) := by
  have hM : ∀ b o v, k.M b o = some v → b ≠ r := fun b o v hm e => by
    subst e
    have := (hr.imm b o v hm).1
    simp [World.cell?, hw] at this
  refine ⟨fun b o v hm => ⟨by rw [cell?_of_heap (World.putObj_heap_other (hM b o v hm))]; exact (hr.imm b o v hm).1, (hr.imm b o v hm).2⟩, fun b c hR => ?_, fun b x hb => ?_⟩
  · obtain ⟨cs, e, fr, h1, h2⟩ := hr.rows b c hR
    have hne : b ≠ r := fun e' => by subst e'; rw [hw] at h1; cases h1
    exact ⟨cs, e, fr, by rw [World.putObj_heap_other hne]; exact h1, h2⟩
  · have hne : b ≠ r := fun e => by subst e; rw [hn] at hb; cases hb
    exact (hr.own b x hb).mono (K.le.refl _) (World.putObj_heap_other hne)

theorem leaves_sound {P : Program} {fn : Func} {k₀ : K} {H₀ : Hp} {w₀ : World} {Q : V → Hp → Prop} {n : Nat} {a : Act} {t : T} {xs : List V} {B : List Nat} {H : Hp} (hx : ressV P t H fn.results.toList = some xs) (hs : sealA B (oneV xs) H Q) :
    ∀ (ds : List Deferred) {k : K} {w : World}, k₀.le k → Rel k H w → RelT k n a t → Fr H₀ w₀ H w → Mk w₀.heap.size ds H w →
      LeavesInM Fence.wide 0 P fn a.tmps (fun e w' => ∃ v, e = .returned v ∧ OpPost k₀ H₀ w₀ Q v w') ds .returning w
  | [], k, w, hk, hr, hT, hf, _ => by
    obtain ⟨v, h1, h2⟩ := results_sound hr hT hx
    obtain ⟨y, H', k', c1, c2, c3, c4, c5⟩ := sealA_sound B hr h2 hs
    exact ⟨v, h1, v, rfl, y, H', k', c1, hk.trans c2, c3, c4, hf.trans c5⟩
  | d :: ds, k, w, hk, hr, hT, hf, hm => by
    obtain ⟨r, h1, h2, h3, h4, h5⟩ := hm.2 d (by simp)
    refine ⟨by simp, .inl ⟨r, _, h1, run_takeDeferred h5, leaves_sound hx hs ds hk (hr.shut h5 h4) hT ?_ ?_⟩⟩
    · refine ⟨hf.os, hf.tape, hf.out, by simpa using hf.size, fun b hb hn => ?_, hf.dom⟩
      rw [World.putObj_heap_other (by omega)]
      exact hf.same b hb hn
    · have hp := List.pairwise_cons.1 hm.1
      refine ⟨hp.2, fun d' hd' => ?_⟩
      obtain ⟨r', g1, g2, g3, g4, g5⟩ := hm.2 d' (by simp [hd'])
      have hne : r' ≠ r := fun e => hp.1 d' hd' (by rw [h1, g1, e])
      exact ⟨r', g1, g2, by simpa using g3, g4, by rw [World.putObj_heap_other hne]; exact g5⟩

/-- **A FUNCTION OUT OF ITS BODY.** -/
theorem ak {P : Program} {S : Nat → Spec} (hm : P.follows .mixedOrders = true) (hS : TSound P S) (O : List Nat) {g : FuncId} {fn : Func} {c : Code} (hf : P.funcs[g]? = some fn) (hb : fn.body = some c) (hB : hasBody P g = true) {s : Spec}
    (h : ∀ Y args H Q, s Y args H Q → args.length ≤ fn.ntmps ∧ wpC P S Y O fn.ntmps c true (aB P fn.results.toList Q) (initT args) H) : Sound P g s := by
  intro Y args H Q hs k w cargs hY hr hc
  obtain ⟨hn, hw⟩ := h Y args H Q hs
  refine .inr ⟨cm hB _ _, callsIn_of_wp_marks hf hb trivial ?_⟩
  refine wpIn_mono (wpC_sound (O := O) hm hS c true none (fun _ => rfl) Y k hY H w hr _ _ (initT_rel hc hn) w.heap.size ⟨List.Pairwise.nil, fun d hd => by cases hd⟩ (Nat.le_refl _) _ hw) fun e a' w' hp => ?_
  obtain ⟨t', H', k', b1, b2, b3, b4, b5, b6⟩ := hp
  cases e with
  | normal =>
    obtain ⟨xs, hx, B, hB⟩ := b1
    exact leaves_sound hx hB _ b2 b3 b4 b5 b6
  | ret =>
    obtain ⟨xs, hx, B, hB⟩ := b1
    exact leaves_sound hx hB _ b2 b3 b4 b5 b6
  | _ => exact b1.elim

end Go.Av
