/-
  Abstract values: 'wpOp', one operation, and its soundness.
-/
import Derived.Test.YtgjlmmjdofceiaaAv11b
namespace Go.Av
open Go.RowKit

abbrev Spec0 := List V → Hp → (V → Hp → Prop) → Prop
abbrev YEnv := Nat → Spec0
abbrev Spec := YEnv → Spec0

/-- The fence in which all this goes on: everything is let in. -/
def FR (ro : Option Nat) : Fence := { Fence.wide with round := ro }

def YSound (P : Program) (k₀ : K) (Y : YEnv) : Prop := ∀ l args H Q, Y l args H Q → ∀ k w cargs, k₀.le k → Rel k H w → ConcL k cargs args →
  ∃ f tmps assign body, (Instr.yield l cargs).run P w = .ok (.round l f tmps assign body) w ∧ RoundIn Fence.wide 0 P l f tmps assign body w fun e w' => ∃ v, e = .returned v ∧ OpPost k H w Q v w'

/-- **WHAT A SPECIFICATION OF A FUNCTION SAYS.** -/
def Sound (P : Program) (g : FuncId) (s : Spec) : Prop := ∀ Y args H Q, s Y args H Q → ∀ k w cargs, YSound P k Y → Rel k H w → ConcL k cargs args →
  (∃ v w', (callFunc g cargs).run P w = .ok (.value v) w' ∧ OpPost k H w Q v w') ∨
  ((callFunc g cargs).run P w = .ok (.enter g cargs) w ∧ CallsIn Fence.wide 0 P g cargs w fun e w' => ∃ v, e = .returned v ∧ OpPost k H w Q v w')

theorem YSound.mono {P : Program} {k k' : K} {Y : YEnv} (h : YSound P k Y) (hk : k.le k') : YSound P k' Y :=
  fun l args H Q hy k₁ w cargs h1 h2 h3 => h l args H Q hy k₁ w cargs (hk.trans h1) h2 h3

/-- A table of specifications. -/
def tab : List (Nat × Spec) → Nat → Spec
  | [], _ => fun _ _ _ _ => False
  | (h, s) :: r, g => if g = h then s else tab r g

def TSound (P : Program) (S : Nat → Spec) : Prop := ∀ g, Sound P g (S g)

theorem tab_sound {P : Program} : ∀ (l : List (Nat × Spec)), (∀ p ∈ l, Sound P p.1 p.2) → TSound P (tab l)
  | [], _ => fun _ _ _ _ _ h => h.elim
  | (h, s) :: r, hl => fun g => by
    unfold tab
    split
    · rename_i e; subst e; exact hl (g, s) (by simp)
    · exact tab_sound r (fun p hp => hl p (by simp [hp])) g

def callV (S : Nat → Spec) (Y : YEnv) (f : V) (args : List V) (H : Hp) (Q : V → Hp → Prop) : Prop :=
  match f with
  | .fn (.func g) first caps => S g Y (first ++ args ++ caps) H Q
  | .fn (.yield l) first _ => ∃ Q' : V → Hp → Prop, Y l (first ++ args) H Q' ∧ ∀ x H', Q' x H' → Q x H'
  | _ => False

def byteEs (s : ByteArray) : List (List V) := s.data.toList.map fun b => [.int .u8 (b.toNat : Int)]
def intsOf : List (List V) → Option (List Int)
  | [] => some []
  | [.int .u8 n] :: es => (intsOf es).map (n :: ·)
  | _ => none
def strOf (es : List (List V)) : Option ByteArray := (intsOf es).map fun ns => ns.foldl (fun r n => r.push (UInt8.ofNat n.toNat)) ByteArray.empty

def isBytesT (P : Program) (t : TypeId) : Bool :=
  match P.underlying t with
  | some (.slice e) => (match P.underlying e with | some (.int .u8) => true | _ => false)
  | _ => false
def isStrT (P : Program) (t : TypeId) : Bool :=
  match P.underlying t with
  | some .string => true
  | _ => false
def isSliT (P : Program) (t : TypeId) : Bool :=
  match P.underlying t with
  | some (.slice _) => true
  | _ => false

def val (o : Option V) (H : Hp) (Q : V → Hp → Prop) : Prop := ∃ x, o = some x ∧ Q x H

def wpConv (P : Program) (H : Hp) (s d : TypeId) (x : V) (Q : V → Hp → Prop) : Prop :=
  match x with
  | .int i n => val (convV P s d (.int i n)) H Q
  | .str b => isStrT P s = true ∧ isBytesT P d = true ∧ Q (.sl 1 (byteEs b) false) H
  | x => isBytesT P s = true ∧ isStrT P d = true ∧ ∃ es b, view H 1 x = some es ∧ strOf es = some b ∧ Q (.str b) H

def wpBin (P : Program) (H : Hp) (op : BinOp) (t : TypeId) (x y : V) (Q : V → Hp → Prop) : Prop :=
  match x, y with
  | .sl _ [] _, .nils => isSliT P t = true ∧ ∃ p q, eqop op true = some p ∧ eqop op false = some q ∧ Q p H ∧ Q q H
  | x, y => val (binV P op t x y) H Q

def wpBuiltin (P : Program) (H : Hp) (b : Builtin) (ats : List TypeId) (args : List V) (Q : V → Hp → Prop) : Prop :=
  match b, ats, args with
  | .append, [t, tx], [d, x] => wpAppend P H t tx d x Q
  | .copy, [t, tx], [d, x] => wpCopy P H t tx d x Q
  | b, ats, args => val (builtinV P b ats args) H Q

/-- **ONE OPERATION.** -/
def wpOp (P : Program) (S : Nat → Spec) (Y : YEnv) (own : Bool) (H : Hp) (ev : Operand → V) (op : Op) (Q : V → Hp → Prop) : Prop :=
  match op with
  | .move x => if own then ∃ B, sealA B (ev x) H Q else val (some (ev x)) H Q
  | .assign x => if own then ∃ B, sealA B (ev x) H Q else val (some (ev x)) H Q
  | .alloc t => ∃ z, zeroT P t = some z ∧ ∀ b, H b = none → Q (.ptr b 0) (upd H b (some (.row z)))
  | .box _ x => ∃ xs, cellsV (ev x) = some xs ∧ ∀ b, H b = none → Q (.ptr b 0) (upd H b (some (.row xs)))
  | .buildSlice t len parts => ∃ sz zs es, zeroEs P t len = some (sz, zs) ∧ len * sz ≤ 16777216 ∧ buildEs sz zs (parts.toList.map fun (i, x) => (i, ev x)) = some es ∧
      (if own then ∀ b, H b = none → Q (.osl b 0 len sz true) (upd H b (some (.arr sz es))) else Q (.sl sz es true) H)
  | .makeSlice t l c => ∃ n m sz es, makeLens (ev l) (ev c) = some (n, m) ∧ bytesT P t * m ≤ 281474976710656 ∧ zeroEs P t m = some (sz, es) ∧
      (if own then ∀ b, H b = none → Q (.osl b 0 n sz (decide (n = m))) (upd H b (some (.arr sz (es.take n)))) else Q (.sl sz (es.take n) (decide (n = m))) H)
  | .store t a x => ∃ H', storeV P H t (ev a) (ev x) = some H' ∧ Q .junk H'
  | .convert s d x => wpConv P H s d (ev x) Q
  | .binOp o t x y _ => wpBin P H o t (ev x) (ev y) Q
  | .call c => match c.callee with
    | .value f => callV S Y (ev f) (c.args.toList.map ev) H Q
    | .builtin b => wpBuiltin P H b c.argTypes.toList (c.args.toList.map ev) Q
    | _ => False
  | op => val (pval P H ev op) H Q

theorem OpPost.mono {k : K} {H : Hp} {w : World} {Q Q' : V → Hp → Prop} {v : Value} {w' : World} (h : OpPost k H w Q v w') (hq : ∀ x H', Q x H' → Q' x H') : OpPost k H w Q' v w' := by
  obtain ⟨x, H', k', a, b⟩ := h
  exact ⟨x, H', k', hq _ _ a, b⟩

theorem OpPost.pure {k : K} {H : Hp} {w : World} (hr : Rel k H w) {Q : V → Hp → Prop} {v : Value} {x : V} (hc : Conc k v x) (h : Q x H) : OpPost k H w Q v w :=
  ⟨x, H, k, h, K.le.refl _, hr, hc, Fr.refl _ _⟩

theorem wpConv_sound {P : Program} {k : K} {H : Hp} {w : World} (hr : Rel k H w) {s d : TypeId} {v : Value} {x : V} (hx : Conc k v x) {Q : V → Hp → Prop} (h : wpConv P H s d x Q) :
    ∃ r w', (convert s d v).run P w = .ok r w' ∧ OpPost k H w Q r w' := by
  have str : ∀ (x : V), Conc k v x → isBytesT P s = true → isStrT P d = true → ∀ es b, view H 1 x = some es → strOf es = some b → Q (.str b) H → ∃ r w', (convert s d v).run P w = .ok r w' ∧ OpPost k H w Q r w' := by
    intro x hx h1 h2 es b hv hb hq
    unfold isBytesT at h1
    split at h1
    · rename_i e hs
      split at h1
      · rename_i he
        unfold isStrT at h2
        split at h2
        · rename_i hd
          obtain ⟨a, c, rfl, hle, hsz, news, hl, hc, hn, hcc⟩ := view_cells hr hx (by omega) hv
          simp only [strOf, Option.map_eq_some_iff] at hb
          obtain ⟨ns, hns, rfl⟩ := hb
          have hnews : ∀ (es : List (List V)) (ns : List Int) (news : List Value), intsOf es = some ns → news.length = es.length * 1 →
              (∀ (i : Nat) e (j : Nat) y, es[i]? = some e → e[j]? = some y → ∃ u, news[i * 1 + j]? = some u ∧ Conc k u y) → news = ns.map (Value.int .u8) := by
            intro es
            induction es with
            | nil => intro ns news hi hl _; simp only [intsOf, Option.some.injEq] at hi; subst hi; exact List.eq_nil_of_length_eq_zero (by simpa using hl)
            | cons e es ih =>
              intro ns news hi hl hcc
              unfold intsOf at hi
              split at hi
              · cases ‹(e :: es) = []›
              · rename_i n es' heq
                cases heq
                simp only [Option.map_eq_some_iff] at hi
                obtain ⟨ns', hn', rfl⟩ := hi
                cases news with
                | nil => simp at hl
                | cons u us =>
                  obtain ⟨u', hu', hcu⟩ := hcc 0 [.int .u8 n] 0 (.int .u8 n) (by simp) (by simp)
                  simp only [Nat.zero_mul, Nat.add_zero, List.getElem?_cons_zero, Option.some.injEq] at hu'
                  subst hu'
                  cases hcu
                  rw [List.map_cons, ih ns' us hn' (by simpa using hl) (fun i e j y a b => by
                    obtain ⟨q, hq, hc⟩ := hcc (i + 1) e j y (by simpa using a) b
                    refine ⟨q, ?_, hc⟩
                    have e1 : (i + 1) * 1 + j = (i * 1 + j) + 1 := by omega
                    rw [e1, List.getElem?_cons_succ] at hq
                    exact hq)]
              · cases hi
          have e1 := hnews es ns news hns hl hcc
          refine ⟨.string (ns.foldl (fun r n => r.push (UInt8.ofNat n.toNat)) ByteArray.empty), w, ?_, OpPost.pure hr (.str _) hq⟩
          rw [run_convert_bytes_string w s d e a es.length c hs he hd]
          cases a with
          | none =>
            have := hn rfl
            subst this
            simp only [intsOf, Option.some.injEq] at hns
            subst hns
            rfl
          | some ad =>
            refine run_bytesToString w ad es.length c ns ?_
            rw [← e1]
            have hlen : es.length = news.length := by rw [hl, Nat.mul_one]
            rw [hlen]
            exact run_loadCells_list w ad news (fun j u hj => by
              obtain ⟨ad', e2, h2⟩ := hc j u hj
              cases e2
              exact h2)
        · cases h2
      · cases h1
    · cases h1
  unfold wpConv at h
  split at h
  · obtain ⟨z, hz, hq⟩ := h
    obtain ⟨c, h1, h2⟩ := convV_sound (w := w) hx hz
    exact ⟨c, w, h1, OpPost.pure hr h2 hq⟩
  · rename_i b
    obtain ⟨h1, h2, hq⟩ := h
    cases hx
    unfold isStrT at h1
    split at h1
    · rename_i hs
      unfold isBytesT at h2
      split at h2
      · rename_i e hd
        split at h2
        · rename_i he
          have hrun := run_bytes_of_string (P := P) w s d e b hs hd he
          obtain ⟨g1, g2, g3⟩ := alloc_val hr.drew (bytesRow b (grownCap w b.size 0 e)) e ((bytesRow b (grownCap w b.size 0 e)).size, (bytesRow b (grownCap w b.size 0 e)).size + 1)
          have hL : Laid k (bytesRow b (grownCap w b.size 0 e)) 1 (byteEs b) := by
            have hlen : (byteEs b).length = b.size := by simp only [byteEs, List.length_map, Array.length_toList]; rfl
            refine ⟨?_, fun e he => ?_, fun i e j y hi hj => ?_⟩
            · rw [hlen]; simp only [bytesRow, Array.size_append, Array.size_map, Nat.mul_one]; exact Nat.le_add_right _ _
            · obtain ⟨_, _, rfl⟩ := List.mem_map.1 he; rfl
            · simp only [byteEs, List.getElem?_map, Option.map_eq_some_iff] at hi
              obtain ⟨q, hq, rfl⟩ := hi
              cases j with
              | zero =>
                simp only [List.getElem?_cons_zero, Option.some.injEq] at hj
                subst hj
                refine ⟨.int .u8 q.toNat, ?_, .int _ _⟩
                rw [Array.getElem?_toList] at hq
                have hlt := (Array.getElem?_eq_some_iff.1 hq).1
                simp only [bytesRow, Nat.mul_one, Nat.add_zero]
                rw [Array.getElem?_append_left (by simpa using hlt), Array.getElem?_map, hq]
                rfl
              | succ j => simp at hj
          have hlen : (byteEs b).length = b.size := by simp only [byteEs, List.length_map, Array.length_toList]; rfl
          exact ⟨_, _, hrun, _, _, _, hq, g1, g2, Conc.of_laid (hL.mono g1) hlen (grownCap_ge w b.size 0 e) (fun hf => by cases hf) g3, (Fr.drew H w).trans (Fr.alloc_plain _ _ _)⟩
        · cases h2
      · cases h2
    · cases h1
  · obtain ⟨h1, h2, es, b, h3, h4, h5⟩ := h
    exact str _ hx h1 h2 es b h3 h4 h5

theorem wpBin_sound {P : Program} {k : K} {H : Hp} {w : World} (hr : Rel k H w) {op : BinOp} {t : TypeId} {v u : Value} {x y : V} (ox oy : Operand) (hx : Conc k v x) (hy : Conc k u y) {Q : V → Hp → Prop} (h : wpBin P H op t x y Q) :
    ∃ r w', ((do eqGuard op t ox oy v u; Go.binOp op t v u) : Sem Value).run P w = .ok r w' ∧ OpPost k H w Q r w' := by
  unfold wpBin at h
  split at h
  · obtain ⟨h1, p, q, hp, hq, q1, q2⟩ := h
    have hn : nkT P t = some .s := by
      unfold isSliT at h1
      unfold nkT
      split at h1
      · rename_i e he; rw [he]
      · cases h1
    have hnil : NilLike .s true u := nilLike_of hy rfl rfl
    have key : ∀ (r : Bool) z, NilLike .s r v → eqop op r = some z → Q z H → ∃ r w', ((do eqGuard op t ox oy v u; Go.binOp op t v u) : Sem Value).run P w = .ok r w' ∧ OpPost k H w Q r w' := by
      intro r z hv hz hQ
      obtain ⟨c, h1, h2⟩ := nilLike_bin (P := P) (k := k) (w := w) ox oy hn hv hnil (.inl ⟨rfl, rfl⟩) hz
      exact ⟨c, w, h1, OpPost.pure hr h2 hQ⟩
    cases hx with
    | slnil sz full => exact key true p (.s none 0 0) hp q1
    | sl b off cap sz es full vs a b c d e => exact key false q (.s (some _) _ _) hq q2
  · obtain ⟨z, hz, hq⟩ := h
    obtain ⟨c, h1, h2⟩ := binV_sound (w := w) ox oy hx hy hz
    exact ⟨c, w, h1, OpPost.pure hr h2 hq⟩

theorem wpBuiltin_sound {P : Program} {k : K} {H : Hp} {w : World} (hr : Rel k H w) {b : Builtin} {ats : Array TypeId} {ty : TypeId} {cs : Array Bool} {vs : Array Value} {xs : List V} (hx : ConcL k vs xs) {Q : V → Hp → Prop}
    (h : wpBuiltin P H b ats.toList xs Q) : ∃ r w', (builtin b ats ty cs vs).run P w = .ok (.value r) w' ∧ OpPost k H w Q r w' := by
  obtain ⟨atl⟩ := ats
  simp only at h
  unfold wpBuiltin at h
  split at h
  · obtain ⟨vl⟩ := vs
    obtain ⟨hl, hc⟩ := hx
    match vl, hl with
    | [v, u], _ =>
      obtain ⟨r, w', h1, h2⟩ := wpAppend_sound (ty := ty) hr (hc 0 v _ (by simp) (by simp)) (hc 1 u _ (by simp) (by simp)) h
      exact ⟨r, w', by simp [builtin, h1], h2⟩
  · obtain ⟨vl⟩ := vs
    obtain ⟨hl, hc⟩ := hx
    match vl, hl with
    | [v, u], _ =>
      obtain ⟨r, w', h1, h2⟩ := wpCopy_sound (ty := ty) hr (hc 0 v _ (by simp) (by simp)) (hc 1 u _ (by simp) (by simp)) h
      exact ⟨r, w', by simp [builtin, h1], h2⟩
  · obtain ⟨z, hz, hq⟩ := h
    obtain ⟨c, h1, h2⟩ := builtinV_sound (P := P) (w := w) (ty := ty) (cs := cs) (ats := ⟨atl⟩) hx hz
    exact ⟨c, w, h1, OpPost.pure hr h2 hq⟩

theorem parts_conc {k : K} {f : Operand → Value} {g : Operand → V} (h : ∀ x, Conc k (f x) (g x)) (parts : Array (Nat × Operand)) (j : Nat) (p : Nat × Value) (q : Nat × V)
    (a : (parts.map fun (i, x) => (i, f x))[j]? = some p) (b : (parts.toList.map fun (i, x) => (i, g x))[j]? = some q) : p.1 = q.1 ∧ Conc k p.2 q.2 := by
  simp only [Array.getElem?_map, Option.map_eq_some_iff] at a
  obtain ⟨⟨i, o⟩, ho, rfl⟩ := a
  simp only [List.getElem?_map, Array.getElem?_toList, ho, Option.map_some, Option.some.injEq] at b
  subst b
  exact ⟨rfl, h o⟩

/-- What is asked of the rest. -/
def Goes (k : K) (H : Hp) (w : World) (Q : V → Hp → Prop) (o : Oper) (a : Act) (next : Act → World → Prop) : Prop := ∀ v w', OpPost k H w Q v w' → next (a.put o.dst v) w'

theorem semAt_FR (ro : Option Nat) (ρ : Operand → Value) (o : Oper) (h : ∀ c, o.op ≠ .defer c) : o.semAt (FR ro).round ρ = execOp ρ o := Oper.semAt_eq _ ρ o h

theorem uponIn_value {ro : Option Nat} {P : Program} {o : Oper} {a : Act} {w w' : World} {v : Value} {next : Act → World → Prop} {Q : Exit → Act → World → Prop} (hd : ∀ c, o.op ≠ .defer c) (h : (execOp a.eval o).run P w = .ok (.value v) w')
    (hn : next (a.put o.dst v) w') : o.wpIn (FR ro) 0 P a w next Q := by
  refine ⟨fun _ _ => trivial, ?_⟩
  rw [semAt_FR _ _ _ hd, h]
  exact hn

theorem uponIn_skip {ro : Option Nat} {P : Program} {o : Oper} {a : Act} {w w' : World} {next : Act → World → Prop} {Q : Exit → Act → World → Prop} (hd : ∀ c, o.op ≠ .defer c) (h : (execOp a.eval o).run P w = .ok .skip w')
    (hn : next (a.put o.dst undef) w') : o.wpIn (FR ro) 0 P a w next Q := by
  refine ⟨fun _ _ => trivial, ?_⟩
  rw [semAt_FR _ _ _ hd, h]
  exact hn

theorem ConcL.append {k : K} {as bs : Array Value} {xs ys : List V} (h : ConcL k as xs) (g : ConcL k bs ys) : ConcL k (as ++ bs) (xs ++ ys) := by
  obtain ⟨h1, h2⟩ := h
  obtain ⟨g1, g2⟩ := g
  refine ⟨by simp [h1, g1], fun j v x a b => ?_⟩
  by_cases c : j < as.size
  · rw [Array.getElem?_append_left c] at a
    rw [List.getElem?_append_left (by omega)] at b
    exact h2 j v x a b
  · rw [Array.getElem?_append_right (by omega)] at a
    rw [List.getElem?_append_right (by omega), h1] at b
    exact g2 _ v x a b

theorem call_sound {ro : Option Nat} {P : Program} {S : Nat → Spec} {Y : YEnv} (hS : TSound P S) {k : K} (hY : YSound P k Y) {H : Hp} {w : World} (hr : Rel k H w) {a : Act} {ev : Operand → V} (he : ∀ x, Conc k (a.eval x) (ev x)) {o : Oper} {c : Call} {f : Operand}
    (ho : o.op = .call c) (hf : c.callee = .value f) {K' : V → Hp → Prop} (h : callV S Y (ev f) (c.args.toList.map ev) H K') {next : Act → World → Prop} {Q : Exit → Act → World → Prop} (hn : Goes k H w K' o a next) : o.wpIn (FR ro) 0 P a w next Q := by
  have hd : ∀ c, o.op ≠ .defer c := fun c => by rw [ho]; simp
  have hargs := ConcL.of_map he c.args
  have hfv := he f
  unfold callV at h
  split at h
  · rename_i g first caps hev
    rw [hev] at hfv
    cases hv : a.eval f <;> rw [hv] at hfv <;> cases hfv
    rename_i fa fc i1 i2 i3 i4
    have hall : ConcL k (fa ++ c.args.map a.eval ++ fc) (first ++ c.args.toList.map ev ++ caps) := (ConcL.append ⟨i1, i2⟩ hargs).append ⟨i3, i4⟩
    have hrun : (execOp a.eval o).run P w = (callFunc g (fa ++ c.args.map a.eval ++ fc)).run P w := by
      simp only [execOp, ho, resolve, hf, hv, Deferred.ofValue, Sem.run_bind, Sem.run_pure, Result.andThen_ok, invoke]
    rcases hS g Y _ _ _ h k w _ hY hr hall with ⟨v, w', h1, h2⟩ | ⟨h1, h2⟩
    · exact uponIn_value hd (by rw [hrun, h1]) (hn v w' h2)
    · refine ⟨fun _ _ => trivial, ?_⟩
      rw [semAt_FR _ _ _ hd, hrun, h1]
      refine ⟨fun hx => by simp [FR, Fence.wide] at hx, trivial, ?_⟩
      intro cs hroom
      obtain ⟨e, w', fr, ⟨v, rfl, hp⟩, h3, h4⟩ := h2.2 cs hroom
      exact ⟨.returned v, w', fr, hn v w' hp, h3, h4⟩
  · rename_i l first caps hev
    rw [hev] at hfv
    cases hv : a.eval f <;> rw [hv] at hfv <;> cases hfv
    rename_i fa fc i1 i2 i3 i4
    have hall : ConcL k (fa ++ c.args.map a.eval) (first ++ c.args.toList.map ev) := ConcL.append ⟨i1, i2⟩ hargs
    obtain ⟨Q', h, hup⟩ := h
    obtain ⟨fn, tmps, assign, body, h1, h2⟩ := hY l _ _ _ h k w _ (K.le.refl _) hr hall
    have hrun : (execOp a.eval o).run P w = .ok (.round l fn tmps assign body) w := by
      simp only [execOp, ho, resolve, hf, hv, Deferred.ofValue, Sem.run_bind, Sem.run_pure, Result.andThen_ok, invoke]
      exact h1
    refine ⟨fun _ _ => trivial, ?_⟩
    rw [semAt_FR _ _ _ hd, hrun]
    refine ⟨fun hx => by simp [FR, Fence.wide] at hx, trivial, ?_⟩
    intro c' cs hroom
    obtain ⟨e, w', ⟨v, rfl, hp⟩, h3⟩ := h2.2 c' cs hroom
    exact ⟨.returned v, w', hn v w' (hp.mono hup), h3⟩
  · exact h.elim

/-- **ONE OPERATION, SOUND.** -/
theorem wpOp_sound {ro : Option Nat} {P : Program} {S : Nat → Spec} {Y : YEnv} (hS : TSound P S) {k : K} (hY : YSound P k Y) {H : Hp} {w : World} (hr : Rel k H w) {a : Act} {ev : Operand → V} (he : ∀ x, Conc k (a.eval x) (ev x)) {own : Bool} {o : Oper}
    {K' : V → Hp → Prop} (h : wpOp P S Y own H ev o.op K') {next : Act → World → Prop} {Q : Exit → Act → World → Prop} (hn : Goes k H w K' o a next) : o.wpIn (FR ro) 0 P a w next Q := by
  have gen : ∀ z, pval P H ev o.op = some z → (∀ c, o.op ≠ .defer c) → K' z H → o.wpIn (FR ro) 0 P a w next Q := fun z hz hd hq => by
    obtain ⟨c, h1, h2⟩ := pval_sound hr he hz
    exact uponIn_value hd h1 (hn c w (OpPost.pure hr h2 hq))
  have sl : ∀ x, (∃ B, sealA B (ev x) H K') → (∀ c, o.op ≠ .defer c) → (execOp a.eval o).run P w = .ok (.value (a.eval x)) w → o.wpIn (FR ro) 0 P a w next Q := fun x ⟨B, hB⟩ hd hrun =>
    uponIn_value hd hrun (hn _ w (sealA_sound B hr (he x) hB))
  unfold wpOp at h
  split at h
  · rename_i x heq
    split at h
    · exact sl x h (by simp [heq]) (by simp [execOp, heq])
    · obtain ⟨z, hz, hq⟩ := h
      exact gen z (by rw [heq]; exact hz) (by simp [heq]) hq
  · rename_i x heq
    split at h
    · exact sl x h (by simp [heq]) (by simp [execOp, heq])
    · obtain ⟨z, hz, hq⟩ := h
      exact gen z (by rw [heq]; exact hz) (by simp [heq]) hq
  · rename_i t heq
    obtain ⟨z, hz, hq⟩ := h
    obtain ⟨v, w', h1, h2⟩ := alloc_sound hr hz hq
    exact uponIn_value (by simp [heq]) (by simp [execOp, heq, h1]) (hn v w' h2)
  · rename_i t x heq
    obtain ⟨z, hz, hq⟩ := h
    obtain ⟨v, w', h1, h2⟩ := box_sound (P := P) (t := t) hr (he x) hz hq
    exact uponIn_value (by simp [heq]) (by simp [execOp, heq, h1]) (hn v w' h2)
  · rename_i t len parts heq
    obtain ⟨sz, zs, es, h1, h2, h3, hq⟩ := h
    have hlen : (parts.map fun (i, x) => (i, a.eval x)).size = (parts.toList.map fun (i, x) => (i, ev x)).length := by simp
    split at hq
    · obtain ⟨v, w', g1, g2⟩ := buildSlice_own hr hlen (parts_conc he parts) h1 h2 h3 hq
      exact uponIn_value (by simp [heq]) (by simp only [execOp, heq, Sem.run_bind, g1, Result.andThen_ok, Sem.run_pure]) (hn v w' g2)
    · obtain ⟨v, w', g1, g2⟩ := buildSlice_val hr hlen (parts_conc he parts) h1 h2 h3 hq
      exact uponIn_value (by simp [heq]) (by simp only [execOp, heq, Sem.run_bind, g1, Result.andThen_ok, Sem.run_pure]) (hn v w' g2)
  · rename_i t l c heq
    obtain ⟨n, m, sz, es, h1, h2, h3, hq⟩ := h
    split at hq
    · obtain ⟨v, w', g1, g2⟩ := makeSlice_own hr (he l) (he c) h1 h2 h3 hq
      exact uponIn_value (by simp [heq]) (by simp [execOp, heq, g1]) (hn v w' g2)
    · obtain ⟨v, w', g1, g2⟩ := makeSlice_val hr (he l) (he c) h1 h2 h3 hq
      exact uponIn_value (by simp [heq]) (by simp [execOp, heq, g1]) (hn v w' g2)
  · rename_i t p x heq
    obtain ⟨H', h1, hq⟩ := h
    obtain ⟨w', g1, g2, g3⟩ := store_sound hr (he p) (he x) h1
    exact uponIn_skip (by simp [heq]) (by simp [execOp, heq, g1]) (hn undef w' ⟨.junk, H', k, hq, K.le.refl _, g2, .junk _, g3⟩)
  · rename_i s d x heq
    obtain ⟨v, w', g1, g2⟩ := wpConv_sound hr (he x) h
    exact uponIn_value (by simp [heq]) (by simp [execOp, heq, g1]) (hn v w' g2)
  · rename_i op t x y yt heq
    obtain ⟨v, w', g1, g2⟩ := wpBin_sound hr x y (he x) (he y) h
    exact uponIn_value (by simp [heq]) (by simp only [execOp, heq, Sem.run_bind] at g1 ⊢; simp [g1]) (hn v w' g2)
  · rename_i c heq
    split at h
    · rename_i f hf
      exact call_sound hS hY hr he heq hf h hn
    · rename_i b hb
      obtain ⟨v, w', g1, g2⟩ := wpBuiltin_sound (ty := o.type) (cs := c.args.map fun | .const _ => true | _ => false) hr (ConcL.of_map he c.args) h
      refine uponIn_value (by simp [heq]) ?_ (hn v w' g2)
      simp only [execOp, heq, resolve, hb, invoke, Sem.run_bind, Sem.run_pure, Result.andThen_ok]
      exact g1
    · exact h.elim
  · rename_i op' _ _ _ _ _ _ _ _ 
    obtain ⟨z, hz, hq⟩ := h
    refine gen z hz (fun c hc => ?_) hq
    rw [hc] at hz
    simp [pval] at hz

end Go.Av
