/-
  Abstract values: the rules by which a body is walked.
-/
import Derived.Test.YtgjlmmjdofceiaaAv21
namespace Go.Av
open Go.RowKit

section
variable {P : Program} {S : Nat → Spec} {Y : YEnv} {O : List Nat} {n : Nat} {ops : Array Oper} {o : Oper} {r : List Oper} {t : T} {H : Hp}

theorem wpOps_cons {Q : T → Hp → Prop} (hg : wantedV ops t o.guard = some true)
    (h : ∀ K : T → Hp → Prop, (∀ t' H', wpOps P S Y O n ops r t' H' Q → K t' H') → wpOp P S Y (owned O o) H (evT t) o.op (fun x H' => K (putT n t o.dst x) H')) : wpOps P S Y O n ops (o :: r) t H Q := by
  unfold wpOps
  rw [hg]
  exact ⟨fun _ => h _ (fun _ _ h => h), fun h => by cases h⟩

theorem wpOps_store {Q : T → Hp → Prop} {ty : TypeId} {a x : Operand} {p v : V} {H' : Hp} (ho : o.op = .store ty a x) (hd : o.dst = none) (hg : wantedV ops t o.guard = some true) (hp : evT t a = p) (hx : evT t x = v) (hs : storeV P H ty p v = some H')
    (h : wpOps P S Y O n ops r t H' Q) : wpOps P S Y O n ops (o :: r) t H Q := by
  unfold wpOps
  rw [hg]
  refine ⟨fun _ => ?_, fun h => by cases h⟩
  rw [ho]
  refine ⟨H', by rw [hp, hx]; exact hs, ?_⟩
  rw [hd]
  exact h

theorem wpOps_skip {Q : T → Hp → Prop} (hg : wantedV ops t o.guard = some false) (h : wpOps P S Y O n ops r (putT n t o.dst (.tup [])) H Q) : wpOps P S Y O n ops (o :: r) t H Q := by
  unfold wpOps
  rw [hg]
  exact ⟨fun h => by (cases h), fun _ => h⟩

theorem wpOps_nil {Q : T → Hp → Prop} (h : Q t H) : wpOps P S Y O n ops [] t H Q := h

theorem quiet_cons {Q : T → Hp → Prop} (hg : wantedV ops t o.guard = some true)
    (h : ∀ K : V → Prop, (∀ x, wpQuietL P S Y O n ops r (putT n t o.dst x) H Q → K x) → ∃ x, wpOp P S Y (owned O o) H (evT t) o.op (fun y H'' => y = x ∧ H'' = H) ∧ K x) : wpQuietL P S Y O n ops (o :: r) t H Q := by
  unfold wpQuietL
  rw [hg]
  exact ⟨fun _ => h _ (fun _ h => h), fun h => by cases h⟩

theorem quiet_skip {Q : T → Hp → Prop} (hg : wantedV ops t o.guard = some false) (h : wpQuietL P S Y O n ops r (putT n t o.dst (.tup [])) H Q) : wpQuietL P S Y O n ops (o :: r) t H Q := by
  unfold wpQuietL
  rw [hg]
  exact ⟨fun h => by (cases h), fun _ => h⟩

theorem quiet_nil {Q : T → Hp → Prop} (h : Q t H) : wpQuietL P S Y O n ops [] t H Q := h

variable {top : Bool} {Q : Exit → T → Hp → Prop}

theorem wpC_seq {x y : Code} (h : ∀ K : T → Hp → Prop, (∀ t' H', wpC P S Y O n y top Q t' H' → K t' H') → wpC P S Y O n x top (thenA K Q) t H) : wpC P S Y O n (.seq x y) top Q t H := by
  unfold wpC
  exact h _ (fun _ _ h => h)

theorem wpC_region {id : Nat} {l : List Oper} (hl : ops.toList = l) (h : wpOps P S Y O n ops l t H (Q .normal)) : wpC P S Y O n (.region id ops false) top Q t H := by
  unfold wpC
  rw [if_neg (by simp), hl]
  exact h

theorem wpC_draw {id : Nat} (m : Nat) {l l' : List Oper} (hB : (drawB ops m (List.range' 0 m) && Region.seqB .any ops (ops.size - m) m ((List.range' 0 m).foldl (fun a j => a.setIfInBounds j true) (Array.replicate ops.size false))) = true)
    (hl : ops.toList.take m = l) (hl' : ops.toList.drop m = l') (h : wpQuietL P S Y O n ops l t H fun t' H' => wpOps P S Y O n ops l' t' H' (Q .normal)) : wpC P S Y O n (.region id ops true) top Q t H := by
  unfold wpC
  rw [if_pos rfl]
  subst hl
  subst hl'
  exact drawOk_quiet hB h

theorem wpC_cut {c : Code} {F : T → Prop} (hF : F t) (h : ∀ t', F t' → wpC P S Y O n c top Q t' H) : wpC P S Y O n c top Q t H := h t hF
theorem wpC_ret (h : Q .ret t H) : wpC P S Y O n .ret top Q t H := h
theorem wpC_skip (h : Q .normal t H) : wpC P S Y O n .skip top Q t H := h
theorem wpC_label {l : Nat} (h : Q .normal t H) : wpC P S Y O n (.label l) top Q t H := h
theorem wpC_exit {id : Nat} (h : Q (.exit id) t H) : wpC P S Y O n (.exit id) top Q t H := h
theorem wpC_block {id : Nat} {c : Code} (h : wpC P S Y O n c top (inBlockA id Q) t H) : wpC P S Y O n (.block id c) top Q t H := h
theorem wpC_scope {c : Code} (h : wpC P S Y O n c top (noGotoA Q) t H) : wpC P S Y O n (.scope c) top Q t H := h
theorem wpC_true {c : Operand} {x y : Code} (hc : evT t c = .bool true) (h : wpC P S Y O n x top Q t H) : wpC P S Y O n (.cond c x y) top Q t H := by
  unfold wpC
  rw [hc]
  exact ⟨fun _ => h, fun h => by cases h⟩
theorem wpC_false {c : Operand} {x y : Code} (hc : evT t c = .bool false) (h : wpC P S Y O n y top Q t H) : wpC P S Y O n (.cond c x y) top Q t H := by
  unfold wpC
  rw [hc]
  exact ⟨fun h => by (cases h), fun _ => h⟩
theorem wpC_cond {c : Operand} {x y : Code} {b : Bool} (hc : evT t c = .bool b) (h1 : b = true → wpC P S Y O n x top Q t H) (h2 : b = false → wpC P S Y O n y top Q t H) : wpC P S Y O n (.cond c x y) top Q t H := by
  unfold wpC
  rw [hc]
  exact ⟨h1, h2⟩
theorem wpC_dec {c : Operand} {x y : Code} {p : Prop} [Decidable p] (hc : evT t c = .bool (decide p)) (h1 : p → wpC P S Y O n x top Q t H) (h2 : ¬p → wpC P S Y O n y top Q t H) : wpC P S Y O n (.cond c x y) top Q t H :=
  wpC_cond hc (fun h => h1 (of_decide_eq_true h)) (fun h => h2 (of_decide_eq_false h))

theorem wpC_loop {c : Code} (I : Nat → T → Hp → Prop) (m : Nat) (h0 : I m t H)
    (h : ∀ K : Nat → T → Hp → Prop, ∀ m t H, I m t H → (∀ m' t' H', m' < m → I m' t' H' → K m t' H') → wpC P S Y O n c top (thenA (fun t' H' => K m t' H') Q) t H) : wpC P S Y O n (.loop c) top Q t H := by
  unfold wpC
  refine ⟨I, ⟨m, h0⟩, fun m t H hI => h (fun m t' H' => ∃ m', m' < m ∧ I m' t' H') m t H hI fun m' t' H' h1 h2 => ⟨m', h1, h2⟩⟩

theorem updA {α : Type} (f : Nat → α) (i : Nat) (x : α) (j : Nat) : upd f i x j = if j = i then x else f j := by simp only [upd]
theorem evT_tmp (t : T) (i : Nat) : evT t (.tmp i) = t i := by simp only [evT]
theorem evT_const (t : T) (v : Value) : evT t (.const v) = ofVal v := by simp only [evT]
theorem evT_global (t : T) (g : Nat) : evT t (.global g) = .ptr g 0 := by simp only [evT]
theorem evT_func (t : T) (f : Nat) : evT t (.func f) = .fn (.func f) [] [] := by simp only [evT]
theorem unV_not (b : Bool) : unV .not (.bool b) = some (.bool !b) := rfl
theorem ofVal_bool (b : Bool) : ofVal (.bool b) = .bool b := rfl
theorem ofVal_str (s : ByteArray) : ofVal (.string s) = .str s := rfl
theorem ofVal_nilp : ofVal (.pointer none) = .nilp := rfl
theorem ofVal_nils : ofVal (.slice none 0 0) = .nils := rfl
theorem ofVal_nilm : ofVal (.map none) = .nilm := rfl
theorem ofVal_niln : ofVal .nilFunc = .niln := rfl
theorem ofVal_neg {k : IntKind} {i : Int} (_ : i < 0) : ofVal (.int k i) = .int k i := rfl
theorem val_some {x : V} {Q : V → Hp → Prop} : val (some x) H Q = Q x H := by simp [val]
theorem wpConv_N {s d : TypeId} {k : IntKind} {n : Nat} {Q : V → Hp → Prop} : wpConv P H s d (vN k n) Q = val (convV P s d (vN k n)) H Q := rfl
theorem wpConv_I {s d : TypeId} {k : IntKind} {n : Int} {Q : V → Hp → Prop} : wpConv P H s d (.int k n) Q = val (convV P s d (.int k n)) H Q := rfl
theorem wpBin_N {op : BinOp} {t : TypeId} {k k' : IntKind} {a b : Nat} {Q : V → Hp → Prop} : wpBin P H op t (vN k a) (vN k' b) Q = val (binV P op t (vN k a) (vN k' b)) H Q := rfl
theorem wpBin_B {op : BinOp} {t : TypeId} {a b : Bool} {Q : V → Hp → Prop} : wpBin P H op t (.bool a) (.bool b) Q = val (binV P op t (.bool a) (.bool b)) H Q := rfl
theorem wpBin_A {op : BinOp} {t : TypeId} {a b : List V} {Q : V → Hp → Prop} : wpBin P H op t (.agg a) (.agg b) Q = val (binV P op t (.agg a) (.agg b)) H Q := rfl
end
/-- The rules of every step. -/
theorem BB : (∀ (t : T) (i : Nat), evT t (Operand.tmp i) = t i) ∧
  (∀ (t : T) (v : Value), evT t (Operand.const v) = ofVal v) ∧
  (∀ (t : T) (g : Nat), evT t (Operand.global g) = V.ptr g 0) ∧
  (∀ (t : T) (f : Nat), evT t (Operand.func f) = V.fn (Fn.func f) [] []) ∧
  (∀ {H : Hp} {x : V} {Q : V → Hp → Prop}, val (some x) H Q = Q x H) ∧
  (∀ {k : IntKind} {i : Int}, 0 ≤ i → ofVal (Value.int k i) = vN k (Int.toNat i)) ∧
  (∀ {k : IntKind} {i : Int}, i < 0 → ofVal (Value.int k i) = V.int k i) ∧
  (∀ (b : Bool), ofVal (Value.bool b) = V.bool b) ∧
  (∀ (s : ByteArray), ofVal (Value.string s) = V.str s) ∧
  (ofVal (Value.pointer none) = V.nilp) ∧
  (ofVal (Value.slice none 0 0) = V.nils) ∧
  (ofVal (Value.map none) = V.nilm) ∧
  (ofVal Value.nilFunc = V.niln) ∧
  (∀ {α : Type} {a : α} {i : Nat} {l : List α}, (a :: l)[i + 1]? = l[i]?) ∧
  (∀ {α : Type} {a : α} {l : List α}, (a :: l)[0]? = some a) ∧
  (∀ {α : Type} {i : Nat}, ([] : List α)[i]? = none) ∧
  (∀ {α : Type} {a b : α}, Option.getD (some a) b = a) ∧
  (∀ {α : Type} {a : α}, Option.getD none a = a) ∧
  (∀ {α β : Type} (a : α) (f : α → Option β), Option.bind (some a) f = f a) ∧
  (∀ {α β : Type} (a : α) (f : α → β), Option.map f (some a) = some (f a)) ∧
  (∀ {α : Type} (val val_1 : α), (some val = some val_1) = (val = val_1)) ∧
  (∀ {P : Program} {H : Hp} {s d : TypeId} {k : IntKind} {n : Nat} {Q : V → Hp → Prop}, wpConv P H s d (vN k n) Q = val (convV P s d (vN k n)) H Q) ∧
  (∀ {P : Program} {H : Hp} {op : BinOp} {t : TypeId} {k k' : IntKind} {a b : Nat} {Q : V → Hp → Prop}, wpBin P H op t (vN k a) (vN k' b) Q = val (binV P op t (vN k a) (vN k' b)) H Q) ∧
  (∀ {P : Program} {H : Hp} {op : BinOp} {t : TypeId} {a b : Bool} {Q : V → Hp → Prop}, wpBin P H op t (V.bool a) (V.bool b) Q = val (binV P op t (V.bool a) (V.bool b)) H Q) ∧
  (∀ {α : Type} (as : List α), as ++ [] = as) ∧
  (∀ {α : Type} (as : List α), [] ++ as = as) ∧
  (∀ {α β : Type} {f : α → β} {a : α} {l : List α}, List.map f (a :: l) = f a :: List.map f l) ∧
  (∀ {α β : Type} {f : α → β}, List.map f [] = []) ∧
  (∀ {α : Type} {a : α} {as bs : List α}, a :: as ++ bs = a :: (as ++ bs)) ∧
  (∀ {α : Type} [inst : BEq α] {a b : α} {l : List α}, List.contains (a :: l) b = (b == a || List.contains l b)) ∧
  (∀ {α : Type} {a : α} [inst : BEq α], List.contains ([] : List α) a = false) ∧
  (∀ (b : Bool), (b || false) = b) ∧
  (∀ (b : Bool), (false || b) = b) ∧
  (∀ (b : Bool), (true || b) = true) ∧
  (∀ (b : Bool), (b || true) = true) ∧
  (∀ {α : Type} [inst : BEq α] [ReflBEq α] (a : α), (a == a) = true) ∧
  ((false = true) = False) ∧
  (∀ {P : Program} {t : TypeId} (a b : Nat), binV P BinOp.add t (vN IntKind.u32 a) (vN IntKind.u32 b) = some (vN IntKind.u32 ((a + b) % 4294967296))) ∧
  (∀ {P : Program} {t : TypeId} (a b : Nat), binV P BinOp.sub t (vN IntKind.u32 a) (vN IntKind.u32 b) = some (vN IntKind.u32 ((a + (4294967296 - b % 4294967296)) % 4294967296))) ∧
  (∀ {P : Program} {t : TypeId} (a b : Nat), binV P BinOp.mul t (vN IntKind.u32 a) (vN IntKind.u32 b) = some (vN IntKind.u32 (a * b % 4294967296))) ∧
  (∀ {P : Program} {t : TypeId} (a b : Nat), binV P BinOp.and t (vN IntKind.u32 a) (vN IntKind.u32 b) = some (vN IntKind.u32 ((a &&& b) % 4294967296))) ∧
  (∀ {P : Program} {t : TypeId} (a b : Nat), binV P BinOp.or t (vN IntKind.u32 a) (vN IntKind.u32 b) = some (vN IntKind.u32 ((a ||| b) % 4294967296))) ∧
  (∀ {P : Program} {t : TypeId} (a b : Nat), binV P BinOp.xor t (vN IntKind.u32 a) (vN IntKind.u32 b) = some (vN IntKind.u32 ((a ^^^ b) % 4294967296))) ∧
  (∀ {P : Program} {t : TypeId} (a b : Nat), binV P BinOp.add t (vN IntKind.u64 a) (vN IntKind.u64 b) = some (vN IntKind.u64 ((a + b) % 18446744073709551616))) ∧
  (∀ {P : Program} {t : TypeId} (a b : Nat), binV P BinOp.sub t (vN IntKind.u64 a) (vN IntKind.u64 b) = some (vN IntKind.u64 ((a + (18446744073709551616 - b % 18446744073709551616)) % 18446744073709551616))) ∧
  (∀ {P : Program} {t : TypeId} (a b : Nat), binV P BinOp.mul t (vN IntKind.u64 a) (vN IntKind.u64 b) = some (vN IntKind.u64 (a * b % 18446744073709551616))) ∧
  (∀ {P : Program} {t : TypeId} (a b : Nat), binV P BinOp.and t (vN IntKind.u64 a) (vN IntKind.u64 b) = some (vN IntKind.u64 ((a &&& b) % 18446744073709551616))) ∧
  (∀ {P : Program} {t : TypeId} (a b : Nat), binV P BinOp.or t (vN IntKind.u64 a) (vN IntKind.u64 b) = some (vN IntKind.u64 ((a ||| b) % 18446744073709551616))) ∧
  (∀ {P : Program} {t : TypeId} (a b : Nat), binV P BinOp.and t (vN IntKind.u8 a) (vN IntKind.u8 b) = some (vN IntKind.u8 ((a &&& b) % 256))) ∧
  (∀ {P : Program} {t : TypeId} (a b : Nat), binV P BinOp.or t (vN IntKind.u8 a) (vN IntKind.u8 b) = some (vN IntKind.u8 ((a ||| b) % 256))) ∧
  (∀ {P : Program} {t : TypeId} (a b : Nat) (k : IntKind), binV P BinOp.shl t (vN IntKind.u32 a) (vN k b) = some (vN IntKind.u32 (a * 2 ^ min b 32 % 4294967296))) ∧
  (∀ {P : Program} {t : TypeId} (a b : Nat) (k : IntKind), binV P BinOp.shl t (vN IntKind.u64 a) (vN k b) = some (vN IntKind.u64 (a * 2 ^ min b 64 % 18446744073709551616))) ∧
  (∀ {P : Program} {t : TypeId} (a b : Nat) (k k' : IntKind), binV P BinOp.shr t (vN k a) (vN k' b) = some (vN k (a / 2 ^ min b (IntKind.bits k)))) ∧
  (∀ {P : Program} {t : TypeId} (a b : Nat) (k : IntKind), binV P BinOp.lss t (vN k a) (vN k b) = some (V.bool (decide (a < b)))) ∧
  (∀ {P : Program} {t : TypeId} (a b : Nat) (k : IntKind), binV P BinOp.leq t (vN k a) (vN k b) = some (V.bool (decide (a ≤ b)))) ∧
  (∀ {P : Program} {t : TypeId} (a b : Nat) (k : IntKind), binV P BinOp.gtr t (vN k a) (vN k b) = some (V.bool (decide (b < a)))) ∧
  (∀ {P : Program} {t : TypeId} (a b : Nat) (k : IntKind), binV P BinOp.geq t (vN k a) (vN k b) = some (V.bool (decide (b ≤ a)))) ∧
  (∀ {P : Program} {t : TypeId} (a b : Nat) (k : IntKind), binV P BinOp.eql t (vN k a) (vN k b) = some (V.bool (decide (a = b)))) ∧
  (∀ {P : Program} {t : TypeId} (a b : Nat) (k : IntKind), binV P BinOp.neq t (vN k a) (vN k b) = some (V.bool (decide (a ≠ b)))) ∧
  (∀ (a : Nat), unV UnOp.xor (vN IntKind.u32 a) = some (vN IntKind.u32 ((4294967295 ^^^ a) % 4294967296))) ∧
  (∀ (n : Nat), 0 + n = n) ∧
  (∀ (n : Nat), n + 0 = n) ∧
  (∀ (n : Nat), n * 1 = n) ∧
  (∀ (n : Nat), 1 * n = n) ∧
  (∀ (b : Bool), unV UnOp.not (V.bool b) = some (V.bool !b)) ∧
  ((!true) = false) ∧
  ((!false) = true) ∧
  (∀ {α β : Type} (f : α → β), Option.map f none = none) :=
  ⟨@evT_tmp, @evT_const, @evT_global, @evT_func, @val_some, @ofVal_nn, @ofVal_neg, @ofVal_bool, @ofVal_str, @ofVal_nilp, @ofVal_nils, @ofVal_nilm, @ofVal_niln, @List.getElem?_cons_succ, @List.getElem?_cons_zero, @List.getElem?_nil, @Option.getD_some, @Option.getD_none, @Option.bind_some, @Option.map_some, @Option.some.injEq, @wpConv_N, @wpBin_N, @wpBin_B, @List.append_nil, @List.nil_append, @List.map_cons, @List.map_nil, @List.cons_append, @List.contains_cons, @List.contains_nil, @Bool.or_false, @Bool.false_or, @Bool.true_or, @Bool.or_true, @beq_self_eq_true, @Bool.false_eq_true, @u32_add, @u32_sub, @u32_mul, @u32_and, @u32_or, @u32_xor, @u64_add, @u64_sub, @u64_mul, @u64_and, @u64_or, @u8_and, @u8_or, @shl_u32, @shl_u64, @shr_N, @N_lss, @N_leq, @N_gtr, @N_geq, @N_eql, @N_neq, @not_u32, @Nat.zero_add, @Nat.add_zero, @Nat.mul_one, @Nat.one_mul, @unV_not, @Bool.not_true, @Bool.not_false, @Option.map_none⟩
end Go.Av
