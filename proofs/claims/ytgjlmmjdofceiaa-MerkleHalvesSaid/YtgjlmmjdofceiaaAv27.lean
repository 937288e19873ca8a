/-
  Abstract values: a statement out of 'Sound': the arguments read as before; the world that a call begins with.
-/
import Derived.Test.YtgjlmmjdofceiaaAv26
import Derived.ProofKit
import Derived.OpenShut
namespace Go.Av
open Go.RowKit Go.ChangeShapes Go.WideShapes

theorem mapM_move {α β : Type} {f g : α → Option β} : ∀ {l : List α} {ys : List β}, (∀ a ∈ l, ∀ y ∈ ys, f a = some y → g a = some y) → l.mapM f = some ys → l.mapM g = some ys
  | [], ys, _, h => by simpa using h
  | a :: l, ys, hg, h => by
    rw [List.mapM_cons] at h ⊢
    obtain ⟨y, hy, h⟩ := Option.bind_eq_some_iff.1 h
    obtain ⟨zs, hz, h⟩ := Option.bind_eq_some_iff.1 h
    cases h
    rw [hg a (by simp) y (by simp) hy]
    show (l.mapM g).bind _ = _
    rw [mapM_move (fun a ha y hy => hg a (by simp [ha]) y (by simp [hy])) hz]
    rfl

theorem cells?_move {w w' : World} {base : Nat} {a : Addr} {n : Nat} {cs : List Value} (hw : ∀ b, b < w.heap.size → w'.heap[b]? = w.heap[b]?) (h : w.cells? base a n = some cs) : w'.cells? base a n = some cs := by
  unfold World.cells? at h ⊢
  split at h
  · rw [if_pos ‹_›]
    refine mapM_move (fun i _ y _ hy => ?_) h
    have hlt := World.block_lt_of_cell? w (a.add i) hy
    rw [← hy]
    simp only [World.cell?, hw _ hlt]
  · cases h

/-- A type of some depth, whose slices have elements with cells. -/
def tyPos (P : Program) : Nat → TypeId → Bool
  | 0, _ => false
  | d + 1, t => match P.underlying t with
    | some (.pointer e) => tyPos P d e
    | some (.slice e) => decide (0 < P.cellsOf e) && tyPos P d e
    | some (.struct fs) => fs.toList.all fun f => tyPos P d f.type
    | some (.array _ e) => tyPos P d e
    | some (.map _ e) => tyPos P d e
    | _ => true

theorem trod_move {H : Type} {enc : TypeId × Value → H} {P : Program} {w w' : World} {base : Nat} {sp : Nat → Bool} (hw : ∀ b, b < w.heap.size → w'.heap[b]? = w.heap[b]?) :
    ∀ (fuel d : Nat) (t : TypeId) (cs : List Value) (x : DataW H × List MemPlace), tyPos P d t = true → DataW.trod enc P w base (fun _ => true) true fuel t cs = some x → (∀ p ∈ x.2, sp p.block = true) → DataW.trod enc P w' base sp true fuel t cs = some x
  | 0, _, _, _, _, _, h, _ => by simp [DataW.trod] at h
  | _ + 1, 0, _, _, _, hd, _, _ => by simp [tyPos] at hd
  | fuel + 1, d + 1, t, cs, x, hd, h, hs => by
    have ih := trod_move (P := P) (sp := sp) (base := base) (enc := enc) hw fuel d
    unfold tyPos at hd
    unfold DataW.trod at h ⊢
    split at h
    · exact h
    · exact h
    · exact h
    · exact h
    · exact h
    · rename_i e a hu
      obtain ⟨y, hy, rfl⟩ := Option.map_eq_some_iff.1 h
      obtain ⟨cs', h1, h2⟩ := Option.bind_eq_some_iff.1 hy
      rw [cells?_move hw h1]
      simp only [Option.bind_some]
      rw [hu] at hd
      rw [ih e cs' y hd h2 (fun p hp => hs p (by simp [hp]))]
      rfl
    · exact h
    · rename_i e a len cap hu
      simp only at h ⊢
      split at h
      · rename_i hc
        rw [if_pos hc]
        obtain ⟨elems, he, h⟩ := Option.bind_eq_some_iff.1 h
        obtain ⟨rest, hr, rfl⟩ := Option.map_eq_some_iff.1 h
        simp only [if_true] at hr
        rw [hu] at hd
        simp only [Bool.and_eq_true, decide_eq_true_eq] at hd
        have hpos := hd.1
        have one : ∀ i, ∀ y ∈ elems ++ rest, (w.cells? base (a.add (i * P.cellsOf e)) (P.cellsOf e)).bind (DataW.trod enc P w base (fun _ => true) true fuel e) = some y →
            (w'.cells? base (a.add (i * P.cellsOf e)) (P.cellsOf e)).bind (DataW.trod enc P w' base sp true fuel e) = some y := fun i y hy h0 => by
          obtain ⟨cs', h1, h2⟩ := Option.bind_eq_some_iff.1 h0
          rw [cells?_move hw h1]
          exact ih e cs' y hd.2 h2 (fun p hp => hs p (List.mem_append_right _ (List.mem_flatMap.2 ⟨y, hy, hp⟩)))
        rw [mapM_move (fun i _ y hy h0 => one i y (by simp [hy]) h0) he]
        simp only [Option.bind_some]
        by_cases hn : elems.length + rest.length = 0
        · have h1 : rest = [] := List.eq_nil_of_length_eq_zero (by omega)
          subst h1
          have hz : cap - len = 0 := by
            have := mapM_some_length hr
            simpa using this.symm
          rw [hz]
          split <;> simp
        · have hb : sp a.block = true := hs (.cell a.block (a.off + 0)) (List.mem_append_left _ (by
            unfold MemPlace.row
            exact List.mem_map.2 ⟨0, List.mem_range.2 (Nat.mul_pos (by omega) hpos), rfl⟩))
          rw [if_pos hb, mapM_move (fun i _ y hy h0 => one (len + i) y (by simp [hy]) h0) hr]
          rfl
      · cases h
    · rename_i fs hu
      split at h
      · rename_i hc
        rw [if_pos hc]
        obtain ⟨xs, hx, rfl⟩ := Option.map_eq_some_iff.1 h
        rw [hu] at hd
        rw [mapM_move (fun f hf y hy h0 => ih _ _ y (List.all_eq_true.1 hd f hf) h0 (fun p hp => hs p (List.mem_flatMap.2 ⟨y, hy, hp⟩))) hx]
        rfl
      · cases h
    · rename_i n e hu
      split at h
      · rename_i hc
        rw [if_pos hc]
        obtain ⟨xs, hx, rfl⟩ := Option.map_eq_some_iff.1 h
        rw [hu] at hd
        rw [mapM_move (fun i _ y hy h0 => ih _ _ y hd h0 (fun p hp => hs p (List.mem_flatMap.2 ⟨y, hy, hp⟩))) hx]
        rfl
      · cases h
    · exact h
    · exact h
    · exact h
    · rename_i k e b hu
      split at h
      · rename_i es clock hb
        have hlt : b < w.heap.size := (Array.getElem?_eq_some_iff.1 hb).1
        rw [hw b hlt, hb]
        simp only
        split at h
        · rename_i hc
          rw [if_pos hc]
          rw [hu] at hd
          obtain ⟨entries, he, h⟩ := Option.bind_eq_some_iff.1 h
          dsimp only at h
          split at h
          · rename_i hris
            cases h
            have hm : (es.toList.mapM fun x => (keyOf P k x.key).bind fun key =>
                if x.val.formed P e then (DataW.trod enc P w' base sp true fuel e x.val.cells.toList).map fun y => ((key, y.1), y.2) else none) = some entries := by
              refine mapM_move (fun x _ y hy h0 => ?_) he
              obtain ⟨key, hk, h0⟩ := Option.bind_eq_some_iff.1 h0
              rw [hk]
              simp only [Option.bind_some]
              split at h0
              · rename_i hf
                rw [if_pos hf]
                obtain ⟨z, hz, rfl⟩ := Option.map_eq_some_iff.1 h0
                rw [ih _ _ z hd hz (fun p hp => hs p (List.mem_cons_of_mem _ (List.mem_flatMap.2 ⟨_, hy, hp⟩)))]
                rfl
              · cases h0
            rw [hm]
            simp only [Option.bind_some]
            rw [if_pos hris]
          · cases h
        · cases h
      · cases h
    all_goals exact h

end Go.Av
