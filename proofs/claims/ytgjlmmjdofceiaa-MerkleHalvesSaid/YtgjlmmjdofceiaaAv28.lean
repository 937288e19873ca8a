/-
  Abstract values: a law's statement out of 'Sound'.
-/
import Derived.Test.YtgjlmmjdofceiaaAv27
namespace Go.Av
open Go.RowKit Go.ChangeShapes Go.WideShapes

/-- What is known of the world that a call begins with: its cells. -/
def K0 (W : World) : K := ⟨fun b o => W.cell? ⟨b, o, none⟩, fun _ => none⟩
theorem rel0 (W : World) : Rel (K0 W) (fun _ => none) W := ⟨fun _ _ _ h => ⟨h, rfl⟩, fun _ _ h => (by cases h), fun _ _ h => (by cases h)⟩

theorem calls_of_sound {P : Program} {f : FuncId} {s : Spec} {args : Array Value} {xs : List V} {W : World} {Q : V → Hp → Prop} (h : Sound P f s) (hB : hasBody P f = true) (hc : ConcL (K0 W) args xs) (hs : s (fun _ _ _ _ => False) xs (fun _ => none) Q) :
    Calls P f args W fun e W' => ∃ v x H' k', e = .returned v ∧ Q x H' ∧ Conc k' v x ∧ Fr (fun _ => none) W H' W' := by
  rcases h _ _ _ _ hs (K0 W) W args (fun _ _ _ _ hf => hf.elim) (rel0 W) hc with ⟨v, w', h1, _⟩ | ⟨_, h2⟩
  · rw [run_callFunc_body hB] at h1
    cases h1
  · refine callsIn_wide.1 (CallsIn.mono h2 fun e w' ⟨v, he, x, H', k', a, _, _, d, e'⟩ => ⟨v, x, H', k', he, a, d, e'⟩)

theorem trodAll_move {H : Type} {enc : TypeId × Value → H} {P : Program} {w w' : World} {base : Nat} {sp : Nat → Bool} {d : Nat} (hw : ∀ b, b < w.heap.size → w'.heap[b]? = w.heap[b]?) :
    ∀ (ts : List TypeId) (vs : List Value) (ds : List (DataW H)) (ps : List MemPlace), (ts.all fun t => tyPos P d t) = true → DataW.TrodAll enc P w base (fun _ => true) true ts vs ds ps → (∀ p ∈ ps, sp p.block = true) → DataW.TrodAll enc P w' base sp true ts vs ds ps
  | [], [], [], _, _, h, _ => h
  | t :: ts, v :: vs, x :: ds, ps, ht, ⟨p, q, ⟨fuel, h1⟩, h2, h3⟩, hs => by
    simp only [List.all_cons, Bool.and_eq_true] at ht
    subst h3
    exact ⟨p, q, ⟨fuel, trod_move hw fuel d t _ _ ht.1 h1 (fun y hy => hs y (by simp [hy]))⟩, trodAll_move hw ts vs ds q ht.2 h2 (fun y hy => hs y (by simp [hy])), rfl⟩

theorem kept_of_fr {W W' : World} {H' : Hp} (h : Fr (fun _ => none) W H' W') (may : MemPlace → Prop) : W.keptBut W' may := by
  refine ⟨h.os, h.out, fun i hi => ?_⟩
  rw [h.same i hi rfl]
  have : i < W.heap.size := hi
  rw [Array.getElem?_eq_getElem this]
  cases W.heap[i] with
  | cells c t fr => exact ⟨rfl, rfl, rfl, fun _ _ => rfl⟩
  | map es clock => exact .inr ⟨rfl, rfl⟩
  | _ => rfl

/-- The law's end. -/
theorem law_post {H : Type} {enc : TypeId × Value → H} {P : Program} {fn : Func} {s : ChangeSpec} {W W' : World} {args : Array Value} {ds gs : List (DataW H)} {before : List MemPlace} {H' : Hp} {d t4 : Nat}
    (hW : DataW.Whole enc P fn.params.toList s.vars false W args.toList ds gs before) (hv : s.vars = []) (hr : (s.fn H ds).results = [.lit (.bool true)]) (ha : (s.fn H ds).args = ds) (hvv : (s.fn H ds).vars = []) (hrt : fn.resultTypes = #[t4]) (h4 : P.underlying t4 = some .bool)
    (ht : (fn.params.toList.all fun t => tyPos P d t) = true) (hf : Fr (fun _ => none) W H' W') : s.post enc P fn false true false false W args (.bool true) W' := by
  have hlt : ∀ p ∈ before, (fun b => decide (b < W.heap.size)) p.block = true := fun p hp => by simpa using hW.lt p hp
  have hW0 := hW
  obtain ⟨p, q, hA, hV, rfl, _⟩ := hW
  rw [hv] at hV
  obtain ⟨rfl, rfl⟩ := trodVars_none hV
  refine ⟨ds, [], p ++ [], [], p, [], hW0, ?_, ?_, ?_, kept_of_fr hf _, fun h => by cases h⟩
  · rw [List.append_nil, hr, hrt]
    exact trodAll_cons_mk (shut_bool h4 _) trodAll_mk0
  · rw [List.append_nil, ha]
    exact trodAll_move (fun b hb => hf.same b hb rfl) _ _ _ _ ht hA (fun y hy => hlt y (by simp [hy]))
  · rw [hv, List.append_nil, hvv]
    rfl

/-- **A LAW'S CONTRACT.** -/
theorem law_calls {H : Type} {enc : TypeId × Value → H} {P : Program} {f : FuncId} {fn : Func} {s : ChangeSpec} {W : World} {args : Array Value} {ds gs : List (DataW H)} {before : List MemPlace} {d t4 : Nat} {sp : Spec} {xs : List V}
    (hS : Sound P f sp) (hB : hasBody P f = true) (hc : ConcL (K0 W) args xs) (hs : sp (fun _ _ _ _ => False) xs (fun _ => none) (fun v _ => v = .bool true))
    (hW : DataW.Whole enc P fn.params.toList s.vars false W args.toList ds gs before) (hv : s.vars = []) (hr : (s.fn H ds).results = [.lit (.bool true)]) (ha : (s.fn H ds).args = ds) (hvv : (s.fn H ds).vars = []) (hrt : fn.resultTypes = #[t4]) (h4 : P.underlying t4 = some .bool)
    (ht : (fn.params.toList.all fun t => tyPos P d t) = true) : Calls P f args W fun e W' => ∃ v, e = .returned v ∧ s.post enc P fn false true false false W args v W' :=
  (calls_of_sound hS hB hc hs).mono fun e W' ⟨v, x, H', k', he, hx, hcv, hf⟩ => by
    subst hx
    cases hcv
    exact ⟨.bool true, he, law_post hW hv hr ha hvv hrt h4 ht hf⟩
end Go.Av
