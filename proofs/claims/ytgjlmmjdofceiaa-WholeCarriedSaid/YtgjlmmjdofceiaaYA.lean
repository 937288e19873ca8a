/-
  Abstract values: a layer over the walk's laws. Slices that nobody writes any more stand by value; what may be written is a block with its number.
  Abstract values: operations that only compute, and that they are what the machine does.
  Abstract values: what an operation yields that only computes ('pval'), and that it is what the machine does ('pval_sound').
  Abstract values: 'pval' is what the machine does: two operands, one operand, conversions.
  Abstract values: slicing, indexing, fields, building, len: what the machine does.
  Abstract values: indexing, fields, building, len and its kin; 'pval_sound'.
  Abstract values: len, cap, min, max; 'pval_sound': an operation that only computes.
  Abstract values: operations that make or write memory.
  Abstract values: make, store, append, copy.
  Abstract values: append and copy.
-/
import Derived.WalkKit
import Derived.RangeFuncRecord
import Derived.RangeFuncIn
import Derived.RangeFuncLeaves
import Derived.DeepKeys3
import Derived.Deep.AppendSrc

namespace Go.Av
open Go.RowKit

inductive V where
  | int (k : IntKind) (n : Int)
  | bool (b : Bool)
  | str (s : ByteArray)
  | nilp
  | ptr (b off : Nat)
  | eptr (b i off sz : Nat)
  | cptr (e : List V) (off : Nat)
  | nils
  | sl (sz : Nat) (es : List (List V)) (full : Bool)
  | osl (b i n sz : Nat) (full : Bool)
  | rsl (b off n sz : Nat)
  | agg (cs : List V)
  | tup (vs : List V)
  | fn (f : Fn) (first caps : List V)
  | niln
  | mp (b : Nat)
  | nilm
  | ifc (t : TypeId) (x : V)
  | junk
  deriving Inhabited

inductive Blk where
  | row (cells : List V)
  | arr (sz : Nat) (es : List (List V))
  | raw (o : Obj)
  | map (es : List (V × V × Nat)) (clock : Nat)

structure K where
  M : Nat → Nat → Option Value
  R : Nat → Option Nat

structure K.le (k k' : K) : Prop where
  m : ∀ b o v, k.M b o = some v → k'.M b o = some v
  r : ∀ b c, k.R b = some c → k'.R b = some c

theorem K.le.refl (k : K) : k.le k := ⟨fun _ _ _ h => h, fun _ _ h => h⟩
theorem K.le.trans {a b c : K} (h : a.le b) (g : b.le c) : a.le c := ⟨fun _ _ _ x => g.m _ _ _ (h.m _ _ _ x), fun _ _ x => g.r _ _ (h.r _ _ x)⟩

inductive Conc (k : K) : Value → V → Prop
  | int (i : IntKind) (n : Int) : Conc k (.int i n) (.int i n)
  | bool (b : Bool) : Conc k (.bool b) (.bool b)
  | str (s : ByteArray) : Conc k (.string s) (.str s)
  | nilp : Conc k (.pointer none) .nilp
  | ptr (b off : Nat) : Conc k (.pointer (some ⟨b, off, none⟩)) (.ptr b off)
  | eptr (b i off sz : Nat) : Conc k (.pointer (some ⟨b, i * sz + off, none⟩)) (.eptr b i off sz)
  | cptr (b o off : Nat) (e : List V) (vs : Nat → Value) (hM : ∀ j, j < e.length → k.M b (o + j) = some (vs j))
      (hc : ∀ (j : Nat) x, e[j]? = some x → Conc k (vs j) x) : Conc k (.pointer (some ⟨b, o + off, none⟩)) (.cptr e off)
  | nils : Conc k (.slice none 0 0) .nils
  | slnil (sz : Nat) (full : Bool) : Conc k (.slice none 0 0) (.sl sz [] full)
  | slz (a : Addr) (sz : Nat) (full : Bool) : Conc k (.slice (some a) 0 0) (.sl sz [] full)
  | sl (b off cap sz : Nat) (es : List (List V)) (full : Bool) (vs : Nat → Nat → Value) (hsz : ∀ e ∈ es, e.length = sz) (hcap : es.length ≤ cap)
      (hf : full = true → cap = es.length) (hM : ∀ i j, i < es.length → j < sz → k.M b (off + i * sz + j) = some (vs i j))
      (hc : ∀ (i : Nat) e (j : Nat) x, es[i]? = some e → e[j]? = some x → Conc k (vs i j) x) : Conc k (.slice (some ⟨b, off, none⟩) es.length cap) (.sl sz es full)
  | osl (b i n sz cap c : Nat) (full : Bool) (hR : k.R b = some c) (hcap : n ≤ cap) (hc : (i + cap) * sz ≤ c) (hf : full = true → cap = n) :
      Conc k (.slice (some ⟨b, i * sz, none⟩) n cap) (.osl b i n sz full)
  | rsl (b off n sz cap : Nat) (hcap : n ≤ cap) : Conc k (.slice (some ⟨b, off, none⟩) n cap) (.rsl b off n sz)
  | agg (cs : Array Value) (xs : List V) (hl : xs.length = cs.size) (hc : ∀ (j : Nat) v x, cs[j]? = some v → xs[j]? = some x → Conc k v x) : Conc k (.agg cs) (.agg xs)
  | tup (cs : Array Value) (xs : List V) (hl : xs.length = cs.size) (hc : ∀ (j : Nat) v x, cs[j]? = some v → xs[j]? = some x → Conc k v x) : Conc k (.tuple cs) (.tup xs)
  | fn (f : Fn) (a c : Array Value) (xs ys : List V) (h1 : xs.length = a.size) (h2 : ys.length = c.size)
      (ha : ∀ (j : Nat) v x, a[j]? = some v → xs[j]? = some x → Conc k v x) (hc : ∀ (j : Nat) v x, c[j]? = some v → ys[j]? = some x → Conc k v x) : Conc k (.func f a c) (.fn f xs ys)
  | niln : Conc k .nilFunc .niln
  | mp (b : Nat) : Conc k (.map (some b)) (.mp b)
  | nilm : Conc k (.map none) .nilm
  | ifc (t : TypeId) (v : Value) (x : V) (h : Conc k v x) : Conc k (.iface t v) (.ifc t x)
  | junk (v : Value) : Conc k v .junk

theorem Conc.mono {k k' : K} (hk : k.le k') {v : Value} {x : V} (h : Conc k v x) : Conc k' v x := by
  induction h with
  | int i n => exact .int i n
  | bool b => exact .bool b
  | str s => exact .str s
  | nilp => exact .nilp
  | ptr b off => exact .ptr b off
  | eptr b i off sz => exact .eptr b i off sz
  | cptr b o off e vs hM _ ih => exact .cptr b o off e vs (fun j hj => hk.m _ _ _ (hM j hj)) ih
  | nils => exact .nils
  | slnil sz full => exact .slnil sz full
  | slz a sz full => exact .slz a sz full
  | sl b off cap sz es full vs hsz hcap hf hM _ ih => exact .sl b off cap sz es full vs hsz hcap hf (fun i j hi hj => hk.m _ _ _ (hM i j hi hj)) ih
  | osl b i n sz cap c full hR hcap hc hf => exact .osl b i n sz cap c full (hk.r _ _ hR) hcap hc hf
  | rsl b off n sz cap h => exact .rsl b off n sz cap h
  | agg cs xs hl _ ih => exact .agg cs xs hl ih
  | tup cs xs hl _ ih => exact .tup cs xs hl ih
  | fn f a c xs ys h1 h2 _ _ i1 i2 => exact .fn f a c xs ys h1 h2 i1 i2
  | niln => exact .niln
  | mp b => exact .mp b
  | nilm => exact .nilm
  | ifc t v x _ ih => exact .ifc t v x ih
  | junk v => exact .junk v

/-- Value lists, one by one. -/
def ConcL (k : K) (vs : Array Value) (xs : List V) : Prop := xs.length = vs.size ∧ ∀ (j : Nat) v x, vs[j]? = some v → xs[j]? = some x → Conc k v x

theorem ConcL.mono {k k' : K} (hk : k.le k') {vs : Array Value} {xs : List V} (h : ConcL k vs xs) : ConcL k' vs xs := ⟨h.1, fun j v x a b => (h.2 j v x a b).mono hk⟩

def BlkOk (k : K) (w : World) (b : Nat) : Blk → Prop
  | .row cells => ∃ cs e, w.heap[b]? = some (.cells cs e (0, 0)) ∧ ConcL k cs cells
  | .arr sz es => ∃ cs e, w.heap[b]? = some (.cells cs e (0, 0)) ∧ es.length * sz ≤ cs.size ∧ (∀ e ∈ es, e.length = sz) ∧
      ∀ (i : Nat) e (j : Nat) x, es[i]? = some e → e[j]? = some x → ∃ v, cs[i * sz + j]? = some v ∧ Conc k v x
  | .raw o => w.heap[b]? = some o ∧ ∀ cs e fr, o ≠ .cells cs e fr
  | .map es clock => ∃ ms, w.heap[b]? = some (.map ms clock) ∧ es.length = ms.size ∧
      ∀ (j : Nat) m x, ms[j]? = some m → es[j]? = some x → Conc k m.key x.1 ∧ Conc k m.val x.2.1 ∧ m.born = x.2.2

abbrev Hp := Nat → Option Blk

structure Rel (k : K) (H : Hp) (w : World) : Prop where
  imm : ∀ b o v, k.M b o = some v → w.cell? ⟨b, o, none⟩ = some v ∧ H b = none
  rows : ∀ b c, k.R b = some c → ∃ cs e fr, w.heap[b]? = some (.cells cs e fr) ∧ cs.size = c
  own : ∀ b x, H b = some x → BlkOk k w b x

/-- What a piece of the run may turn: the owned blocks, and new ones. -/
structure Fr (H : Hp) (w : World) (H' : Hp) (w' : World) : Prop where
  os : w'.os = w.os
  tape : w'.tape = w.tape
  out : w'.output = w.output
  size : w.heap.size ≤ w'.heap.size
  same : ∀ b, b < w.heap.size → H b = none → w'.heap[b]? = w.heap[b]?
  dom : ∀ b, b < w.heap.size → H b = none → H' b = none

theorem Fr.refl (H : Hp) (w : World) : Fr H w H w := ⟨rfl, rfl, rfl, Nat.le_refl _, fun _ _ _ => rfl, fun _ _ h => h⟩
theorem Fr.trans {H H1 H2 : Hp} {w w1 w2 : World} (h : Fr H w H1 w1) (g : Fr H1 w1 H2 w2) : Fr H w H2 w2 :=
  ⟨g.os.trans h.os, g.tape.trans h.tape, g.out.trans h.out, Nat.le_trans h.size g.size,
    fun b hb hn => (g.same b (Nat.lt_of_lt_of_le hb h.size) (h.dom b hb hn)).trans (h.same b hb hn),
    fun b hb hn => g.dom b (Nat.lt_of_lt_of_le hb h.size) (h.dom b hb hn)⟩

def upd {α : Type} (f : Nat → α) (i : Nat) (x : α) : Nat → α := fun j => if j = i then x else f j
theorem upd_apply {α : Type} (f : Nat → α) (i : Nat) (x : α) (j : Nat) : upd f i x j = if j = i then x else f j := rfl
@[simp] theorem upd_same {α : Type} (f : Nat → α) (i : Nat) (x : α) : upd f i x i = x := by simp [upd]
theorem ah {α : Type} (f : Nat → α) (i : Nat) (x : α) {j : Nat} (h : j ≠ i) : upd f i x j = f j := by simp [upd, h]

/-- An owned block lies in the heap. -/
theorem Rel.lt {k : K} {H : Hp} {w : World} (h : Rel k H w) {b : Nat} {x : Blk} (hb : H b = some x) : b < w.heap.size := by
  have := h.own b x hb
  have key : ∀ o, w.heap[b]? = some o → b < w.heap.size := fun o ho => (Array.getElem?_eq_some_iff.1 ho).1
  cases x with
  | row cells => obtain ⟨cs, e, h1, _⟩ := this; exact key _ h1
  | arr sz es => obtain ⟨cs, e, h1, _⟩ := this; exact key _ h1
  | raw o => exact key _ this.1
  | map es c => obtain ⟨ms, h1, _⟩ := this; exact key _ h1

theorem BlkOk.mono {k k' : K} (hk : k.le k') {w w' : World} {b : Nat} (hw : w'.heap[b]? = w.heap[b]?) {x : Blk} (h : BlkOk k w b x) : BlkOk k' w' b x := by
  cases x with
  | row cells => obtain ⟨cs, e, h1, h2⟩ := h; exact ⟨cs, e, hw.trans h1, h2.mono hk⟩
  | arr sz es =>
    obtain ⟨cs, e, h1, h2, h3, h4⟩ := h
    refine ⟨cs, e, hw.trans h1, h2, h3, fun i e' j x a b => ?_⟩
    obtain ⟨v, hv, hc⟩ := h4 i e' j x a b
    exact ⟨v, hv, hc.mono hk⟩
  | raw o => exact ⟨hw.trans h.1, h.2⟩
  | map es c =>
    obtain ⟨ms, h1, h2, h3⟩ := h
    refine ⟨ms, hw.trans h1, h2, fun j m x a b => ?_⟩
    obtain ⟨p, q, r⟩ := h3 j m x a b
    exact ⟨p.mono hk, q.mono hk, r⟩

/-- Fewer owned blocks may be claimed. -/
theorem Rel.drop {k : K} {H H' : Hp} {w : World} (h : Rel k H w) (hd : ∀ b x, H' b = some x → H b = some x) : Rel k H' w :=
  ⟨fun b o v hm => ⟨(h.imm b o v hm).1, by
      cases hh : H' b with
      | none => rfl
      | some x => have := hd b x hh; rw [(h.imm b o v hm).2] at this; cases this⟩, h.rows, fun b x hb => h.own b x (hd b x hb)⟩

/-- A world that differs in no block at all. -/
theorem Rel.heap {k : K} {H : Hp} {w w' : World} (h : Rel k H w) (hw : w'.heap = w.heap) : Rel k H w' :=
  ⟨fun b o v hm => ⟨by rw [← (h.imm b o v hm).1]; simp [World.cell?, hw], (h.imm b o v hm).2⟩,
    fun b c hr => by rw [hw]; exact h.rows b c hr, fun b x hb => (h.own b x hb).mono (K.le.refl _) (by rw [hw])⟩

theorem cell?_of_heap {w w' : World} {b : Nat} (h : w'.heap[b]? = w.heap[b]?) (o : Nat) : w'.cell? ⟨b, o, none⟩ = w.cell? ⟨b, o, none⟩ := by
  simp [World.cell?, h]

theorem cell?_cells {w : World} {b : Nat} {cs : Array Value} {e : TypeId} {fr : Nat × Nat} (h : w.heap[b]? = some (.cells cs e fr)) (o : Nat) : w.cell? ⟨b, o, none⟩ = cs[o]? := by
  simp [World.cell?, h]

theorem lt_of_cell {w : World} {b o : Nat} {v : Value} (h : w.cell? ⟨b, o, none⟩ = some v) : b < w.heap.size := World.block_lt_of_cell? w ⟨b, o, none⟩ h

theorem Rel.M_lt {k : K} {H : Hp} {w : World} (h : Rel k H w) {b o : Nat} {v : Value} (hm : k.M b o = some v) : b < w.heap.size := lt_of_cell (h.imm b o v hm).1
theorem Rel.R_lt {k : K} {H : Hp} {w : World} (h : Rel k H w) {b c : Nat} (hr : k.R b = some c) : b < w.heap.size := by
  obtain ⟨cs, e, fr, h1, _⟩ := h.rows b c hr
  exact (Array.getElem?_eq_some_iff.1 h1).1

theorem cl (w : World) (o : Obj) {b : Nat} (h : b < w.heap.size) : (w.alloc o).heap[b]? = w.heap[b]? := Below.heap_alloc w o b h
theorem bW (w : World) (o : Obj) : (w.alloc o).heap[w.heap.size]? = some o := World.alloc_heap_new w o

theorem Rel.fresh {k : K} {H : Hp} {w : World} (h : Rel k H w) : H w.heap.size = none := by
  cases hh : H w.heap.size with
  | none => rfl
  | some x => exact absurd (h.lt hh) (Nat.lt_irrefl _)

/-- A new block that nobody names. -/
theorem Rel.alloc_plain {k : K} {H : Hp} {w : World} (h : Rel k H w) (o : Obj) : Rel k H (w.alloc o) :=
  ⟨fun b o' v hm => ⟨by rw [cell?_of_heap (cl w o (h.M_lt hm))]; exact (h.imm b o' v hm).1, (h.imm b o' v hm).2⟩,
    fun b c hr => by rw [cl w o (h.R_lt hr)]; exact h.rows b c hr,
    fun b x hb => (h.own b x hb).mono (K.le.refl _) (cl w o (h.lt hb))⟩

theorem Fr.alloc_plain (H : Hp) (w : World) (o : Obj) : Fr H w H (w.alloc o) :=
  ⟨rfl, rfl, rfl, by simp, fun b hb _ => cl w o hb, fun _ _ h => h⟩

/-- A new block that is owned. -/
theorem Rel.alloc_own {k : K} {H : Hp} {w : World} (h : Rel k H w) (o : Obj) (x : Blk) (hx : BlkOk k (w.alloc o) w.heap.size x) : Rel k (upd H w.heap.size (some x)) (w.alloc o) := by
  have h' := h.alloc_plain o
  refine ⟨fun b o' v hm => ⟨(h'.imm b o' v hm).1, ?_⟩, h'.rows, fun b y hb => ?_⟩
  · rw [ah _ _ _ (Nat.ne_of_lt (h.M_lt hm))]; exact (h.imm b o' v hm).2
  · by_cases e : b = w.heap.size
    · subst e; rw [upd_same] at hb; cases hb; exact hx
    · rw [ah _ _ _ e] at hb; exact h'.own b y hb

theorem Fr.alloc_own {H : Hp} {w : World} (o : Obj) (x : Option Blk) : Fr H w (upd H w.heap.size x) (w.alloc o) :=
  ⟨rfl, rfl, rfl, by simp, fun b hb _ => cl w o hb, fun b hb h => by rw [ah _ _ _ (Nat.ne_of_lt hb)]; exact h⟩

/-- The row sizes may be written down. -/
def K.putR (k : K) (b c : Nat) : K := { k with R := fun b' => if b' = b then some c else k.R b' }
theorem Rel.putR {k : K} {H : Hp} {w : World} (h : Rel k H w) {b : Nat} {cs : Array Value} {e : TypeId} {fr : Nat × Nat} (hb : w.heap[b]? = some (.cells cs e fr)) :
    k.le (k.putR b cs.size) ∧ Rel (k.putR b cs.size) H w := by
  have hle : k.le (k.putR b cs.size) := by
    refine ⟨fun _ _ _ h => h, fun b' c hr => ?_⟩
    by_cases e' : b' = b
    · subst e'
      obtain ⟨cs', e1, fr', h1, h2⟩ := h.rows _ _ hr
      rw [hb] at h1; cases h1
      simp [K.putR, h2]
    · simp [K.putR, e', hr]
  refine ⟨hle, ⟨h.imm, fun b' c hr => ?_, fun b' x hx => (h.own b' x hx).mono hle rfl⟩⟩
  by_cases e' : b' = b
  · subst e'; simp only [K.putR, ↓reduceIte, Option.some.injEq] at hr; exact ⟨cs, e, fr, hb, hr⟩
  · simp only [K.putR, e', ↓reduceIte] at hr; exact h.rows b' c hr

/-- The cells of a block that nobody owns may be taken as lasting. -/
def K.putM (k : K) (b : Nat) (cs : Array Value) : K := { k with M := fun b' o => if b' = b then cs[o]? else k.M b' o }
theorem Rel.putM {k : K} {H : Hp} {w : World} (h : Rel k H w) {b : Nat} {cs : Array Value} {e : TypeId} {fr : Nat × Nat} (hb : w.heap[b]? = some (.cells cs e fr)) (hn : H b = none) :
    k.le (k.putM b cs) ∧ Rel (k.putM b cs) H w := by
  have hle : k.le (k.putM b cs) := by
    refine ⟨fun b' o v hm => ?_, fun _ _ h => h⟩
    by_cases e' : b' = b
    · subst e'
      have := (h.imm _ _ _ hm).1
      rw [cell?_cells hb] at this
      simp [K.putM, this]
    · simp [K.putM, e', hm]
  refine ⟨hle, ⟨fun b' o v hm => ?_, h.rows, fun b' x hx => (h.own b' x hx).mono hle rfl⟩⟩
  by_cases e' : b' = b
  · subst e'; simp only [K.putM, ↓reduceIte] at hm; exact ⟨by rw [cell?_cells hb]; exact hm, hn⟩
  · simp only [K.putM, e', ↓reduceIte] at hm; exact h.imm b' o v hm

end Go.Av

namespace Go.Av
open Go.RowKit

def tyT (P : Program) (t : TypeId) : Option (Bool × Nat) :=
  match P.underlying t, P.info? t with
  | some (.struct _), some i | some (.array _ _), some i => some (true, i.size)
  | some _, some i => some (false, i.size)
  | _, _ => none

/-- The length and the element's size of an array type; the element's size of a slice type; the address' of a pointer to an array. -/
def arrT (P : Program) (t : TypeId) : Option (Nat × Nat) :=
  match P.underlying t with
  | some (.array n e) => (P.info? e).map fun i => (n, i.size)
  | _ => none
def sliT (P : Program) (t : TypeId) : Option Nat :=
  match P.underlying t with
  | some (.slice e) => (P.info? e).map fun i => i.size
  | _ => none
/-- A field's place and type. -/
def fldT (P : Program) (s : TypeId) (f : Nat) : Option (Nat × TypeId) :=
  match P.underlying s with
  | some (.struct fs) => (fs[f]?).bind fun x => match P.info? x.type with
    | some i => if i.size = 0 then none else some (x.offset, x.type)
    | none => none
  | _ => none
def intT (P : Program) (t : TypeId) : Option IntKind :=
  match P.underlying t with
  | some (.int k) => some k
  | _ => none

def toVal : V → Option Value
  | .int k n => some (.int k n)
  | .bool b => some (.bool b)
  | .str s => some (.string s)
  | _ => none
def bK : List V → Option (List Value)
  | [] => some []
  | x :: xs => match toVal x, bK xs with
    | some v, some vs => some (v :: vs)
    | _, _ => none
def litsV (P : Program) (t : TypeId) (xs : List V) : Option (List Lit) := (bK xs).bind fun vs => P.keyLits 20 t vs

def bG (sz : Nat) : Nat → List V → List (List V)
  | 0, _ => []
  | n + 1, cs => cs.take sz :: bG sz n (cs.drop sz)

/-- The cells that an address points into, and where. -/
def aK (H : Hp) : V → Option (List V × Nat)
  | .ptr b off => match H b with
    | some (.row cells) => some (cells, off)
    | _ => none
  | .eptr b i off sz => match H b with
    | some (.arr sz' es) => if sz' = sz then (es[i]?).map fun e => (e, off) else none
    | _ => none
  | .cptr e off => some (e, off)
  | _ => none

def ldc (tt : Option (Bool × Nat)) (cells : List V) (off : Nat) : Option V :=
  match tt with
  | some (true, n) => if off + n ≤ cells.length then some (.agg ((cells.drop off).take n)) else none
  | some (false, _) => cells[off]?
  | none => none

/-- The elements of a slice. -/
def ao (H : Hp) (sz : Nat) : V → Option (List (List V))
  | .nils => some []
  | .sl sz' es _ => if sz' = sz then some es else none
  | .osl b i n sz' _ => match H b with
    | some (.arr sz'' es) => if sz' = sz ∧ sz'' = sz ∧ i + n ≤ es.length then some ((es.drop i).take n) else none
    | _ => none
  | .rsl b off n sz' => match H b with
    | some (.row cells) => if sz' = sz ∧ off + n * sz ≤ cells.length then some (bG sz n (cells.drop off)) else none
    | _ => none
  | _ => none

def slen : V → Option Nat
  | .nils => some 0
  | .sl _ es _ => some es.length
  | .osl _ _ n _ _ => some n
  | .rsl _ _ n _ => some n
  | _ => none

theorem toVal_conc {k : K} {v u : Value} {x : V} (h : Conc k v x) (hx : toVal x = some u) : v = u := by
  cases h <;> simp [toVal] at hx <;> exact hx

theorem toVals_conc {k : K} : ∀ (xs : List V) (vs us : List Value), vs.length = xs.length → (∀ (j : Nat) v x, vs[j]? = some v → xs[j]? = some x → Conc k v x) → bK xs = some us → vs = us
  | [], vs, us, hl, _, h => by
    simp [bK] at h; subst h
    exact List.eq_nil_of_length_eq_zero (by simpa using hl)
  | x :: xs, vs, us, hl, hc, h => by
    cases vs with
    | nil => simp at hl
    | cons v vs =>
      simp only [bK] at h
      split at h
      · rename_i u us' h1 h2
        cases h
        have e1 := toVal_conc (hc 0 v x (by simp) (by simp)) h1
        have e2 := toVals_conc xs vs us' (by simpa using hl) (fun j v' x' a b => hc (j + 1) v' x' (by simpa using a) (by simpa using b)) h2
        rw [e1, e2]
      · cases h

theorem ptrCells_sound {k : K} {H : Hp} {w : World} (hr : Rel k H w) {v : Value} {x : V} (hc : Conc k v x) {cells : List V} {off : Nat} (h : aK H x = some (cells, off)) :
    ∃ b o, v = .pointer (some ⟨b, o + off, none⟩) ∧ ∃ vs : Nat → Value, ∀ (j : Nat) y, cells[j]? = some y → w.cell? ⟨b, o + j, none⟩ = some (vs j) ∧ Conc k (vs j) y := by
  cases hc with
  | ptr b off' =>
    simp only [aK] at h
    split at h
    · rename_i cells' hb
      cases h
      obtain ⟨cs, e, h1, h2, h3⟩ := hr.own _ _ hb
      refine ⟨b, 0, by simp, fun j => cs.getD j undef, fun j y hy => ?_⟩
      have hj : j < cs.size := by rw [← h2]; exact (List.getElem?_eq_some_iff.1 hy).1
      have e1 : cs[j]? = some (cs.getD j undef) := by simp [hj]
      rw [Nat.zero_add, cell?_cells h1]
      exact ⟨e1, h3 j _ y e1 hy⟩
    · cases h
  | eptr b i off' sz =>
    simp only [aK] at h
    split at h
    · rename_i sz' es hb
      split at h
      · rename_i hsz
        subst hsz
        simp only [Option.map_eq_some_iff, Prod.mk.injEq] at h
        obtain ⟨e, he, rfl, rfl⟩ := h
        obtain ⟨cs, e1, h1, h2, h3, h4⟩ := hr.own _ _ hb
        refine ⟨b, i * sz', rfl, fun j => cs.getD (i * sz' + j) undef, fun j y hy => ?_⟩
        obtain ⟨v, hv, hcv⟩ := h4 i e j y he hy
        have hj : i * sz' + j < cs.size := (Array.getElem?_eq_some_iff.1 hv).1
        have e2 : cs[i * sz' + j]? = some (cs.getD (i * sz' + j) undef) := by simp [hj]
        rw [cell?_cells h1]
        rw [e2] at hv; cases hv
        exact ⟨e2, hcv⟩
      · cases h
    · cases h
  | cptr b o off' e vs hM hcv =>
    simp only [aK, Option.some.injEq, Prod.mk.injEq] at h
    obtain ⟨rfl, rfl⟩ := h
    exact ⟨b, o, rfl, vs, fun j y hy => ⟨(hr.imm _ _ _ (hM j (List.getElem?_eq_some_iff.1 hy).1)).1, hcv j y hy⟩⟩
  | _ => simp [aK] at h

theorem bO (b o j : Nat) : (⟨b, o, none⟩ : Addr).add j = ⟨b, o + j, none⟩ := by
  unfold Addr.add; split <;> simp_all

theorem co {P : Program} {t : TypeId} {c : Bool} {n : Nat} (h : tyT P t = some (c, n)) (w : World) : (isAgg t).run P w = .ok c w ∧ (sizeOf t).run P w = .ok n w := by
  unfold tyT at h
  split at h
  · rename_i fs i h1 h2
    cases h
    exact ⟨by simp [isAgg, run_underlying h1], by simp [sizeOf, typeInfo, h2]⟩
  · rename_i n' e i h1 h2
    cases h
    exact ⟨by simp [isAgg, run_underlying h1], by simp [sizeOf, typeInfo, h2]⟩
  · rename_i d i hn1 hn2 h1 h2
    cases h
    refine ⟨?_, by simp [sizeOf, typeInfo, h2]⟩
    cases d <;> simp_all [isAgg, run_underlying h1]
  · cases h

theorem ConcL.of_list {k : K} {vs : List Value} {xs : List V} (hl : xs.length = vs.length) (h : ∀ (j : Nat) v x, vs[j]? = some v → xs[j]? = some x → Conc k v x) : ConcL k vs.toArray xs :=
  ⟨by simpa using hl, fun j v x a b => h j v x (by simpa using a) b⟩

theorem load_sound {P : Program} {k : K} {H : Hp} {w : World} (hr : Rel k H w) {v : Value} {x : V} (hc : Conc k v x) {t : TypeId} {cells : List V} {off : Nat} {y : V}
    (h : aK H x = some (cells, off)) (hy : ldc (tyT P t) cells off = some y) : ∃ u, (Instr.loadAt t v).run P w = .ok u w ∧ Conc k u y := by
  obtain ⟨b, o, rfl, vs, hvs⟩ := ptrCells_sound hr hc h
  unfold ldc at hy
  split at hy
  · rename_i n ht
    split at hy
    · rename_i hle
      cases hy
      obtain ⟨ha, hs⟩ := co ht w
      have hload : (loadCells ⟨b, o + off, none⟩ n).run P w = .ok ((List.range n).map fun j => vs (off + j)).toArray w := by
        refine run_loadCells w ⟨b, o + off, none⟩ n (fun j => vs (off + j)) (fun j hj => ?_)
        have : off + j < cells.length := by omega
        rw [bO, Nat.add_assoc]
        exact (hvs (off + j) _ (List.getElem?_eq_getElem this)).1
      refine ⟨.agg ((List.range n).map fun j => vs (off + j)).toArray, ?_, ?_⟩
      · simp [Instr.loadAt, Instr.sureAddr, loadVar, ha, hs, hload]
      · refine .agg _ _ (by simp; omega) (fun j v' x' h1 h2 => ?_)
        simp only [List.getElem?_toArray, List.getElem?_map, Option.map_eq_some_iff] at h1
        obtain ⟨j', h3, rfl⟩ := h1
        obtain ⟨hlt, rfl⟩ := List.getElem?_eq_some_iff.1 h3
        simp only [List.length_range] at hlt
        simp only [List.getElem_range]
        rw [List.getElem?_take_of_lt hlt, List.getElem?_drop] at h2
        exact (hvs (off + j) _ h2).2
    · cases hy
  · rename_i n ht
    obtain ⟨ha, hs⟩ := co ht w
    obtain ⟨h1, h2⟩ := hvs off y hy
    exact ⟨vs off, by simp [Instr.loadAt, Instr.sureAddr, loadVar, ha, h1], h2⟩
  · cases hy

end Go.Av

namespace Go.Av
open Go.RowKit

def bz (op : BinOp) (k : IntKind) (x y : Int) : Option V :=
  match op with
  | .add => some (.int k (k.wrap (x + y)))
  | .sub => some (.int k (k.wrap (x - y)))
  | .mul => some (.int k (k.wrap (x * y)))
  | .quo => if y = 0 then none else some (.int k (k.wrap (x.tdiv y)))
  | .rem => if y = 0 then none else some (.int k (x.tmod y))
  | .and => some (.int k (k.wrap (BitVec.ofInt k.bits x &&& BitVec.ofInt k.bits y).toNat))
  | .or => some (.int k (k.wrap (BitVec.ofInt k.bits x ||| BitVec.ofInt k.bits y).toNat))
  | .xor => some (.int k (k.wrap (BitVec.ofInt k.bits x ^^^ BitVec.ofInt k.bits y).toNat))
  | .andNot => some (.int k (k.wrap (BitVec.ofInt k.bits x &&& ~~~ BitVec.ofInt k.bits y).toNat))
  | .eql => some (.bool (x == y))
  | .neq => some (.bool (x != y))
  | .lss => some (.bool (decide (x < y)))
  | .leq => some (.bool (decide (x ≤ y)))
  | .gtr => some (.bool (decide (x > y)))
  | .geq => some (.bool (decide (x ≥ y)))
  | .shl => if y < 0 then none else some (.int k (k.wrap (x * 2 ^ (min y.toNat k.bits))))
  | .shr => if y < 0 then none else some (.int k (x.fdiv (2 ^ (min y.toNat k.bits))))

def isShift : BinOp → Bool
  | .shl | .shr => true
  | _ => false

def strOp (op : BinOp) (a b : ByteArray) : Option V :=
  match op with
  | .eql => some (.bool (a.toList == b.toList))
  | .neq => some (.bool !(a.toList == b.toList))
  | .add => if ((a.size + b.size : Nat) : Int) > IntKind.i64.max then none else some (.str (a ++ b))
  | _ => none

def eqop (op : BinOp) (r : Bool) : Option V :=
  match op with
  | .eql => some (.bool r)
  | .neq => some (.bool !r)
  | _ => none

/-- Is the one nil? (For the kinds that are held against nil.) -/
def nilq : V → Option Bool
  | .nilp | .nils | .niln | .nilm => some true
  | .ptr .. | .eptr .. | .cptr .. | .osl .. | .rsl .. | .fn .. | .mp .. => some false
  | .sl _ (_ :: _) _ => some false
  | _ => none

inductive NK where | p | s | f | m
  deriving DecidableEq
def nkT (P : Program) (t : TypeId) : Option NK :=
  match P.underlying t with
  | some (.pointer _) => some .p
  | some (.slice _) => some .s
  | some (.func ..) => some .f
  | some (.map ..) => some .m
  | _ => none
def nkV : V → Option NK
  | .nilp | .ptr .. | .eptr .. | .cptr .. => some .p
  | .nils | .sl .. | .osl .. | .rsl .. => some .s
  | .niln | .fn .. => some .f
  | .nilm | .mp .. => some .m
  | _ => none
def isNil : V → Bool
  | .nilp | .nils | .niln | .nilm => true
  | _ => false

def cellEq : V → V → Bool
  | .int k a, .int k' b => decide (k = k') && a == b
  | .bool a, .bool b => a == b
  | .str a, .str b => decide (a = b)
  | _, _ => false
def eqC : List V → List V → Bool
  | [], [] => true
  | x :: xs, y :: ys => cellEq x y && eqC xs ys
  | _, _ => false

def aggEqT (P : Program) (t : TypeId) : Bool :=
  P.keyTypeAt 20 t && P.tiled 20 t && !(P.eqGuardType P.depth t) && (match P.underlying t with | some (.array _ _) | some (.struct _) => true | _ => false)

def aI (P : Program) (op : BinOp) (t : TypeId) (x y : V) : Option V :=
  match x, y with
  | .int k a, .int k' b => if isShift op then bz op k a b else if k = k' then bz op k a b else none
  | .str a, .str b => strOp op a b
  | .bool a, .bool b => match P.underlying t with
    | some .bool => eqop op (a == b)
    | _ => none
  | .agg xs, .agg ys => if aggEqT P t = true ∧ (litsV P t xs).isSome = true ∧ (litsV P t ys).isSome = true then eqop op (eqC xs ys) else none
  | x, y => if nkT P t = none then none else if nkV x ≠ nkT P t ∨ nkV y ≠ nkT P t then none else
      if isNil y then (nilq x).bind (eqop op) else if isNil x then (nilq y).bind (eqop op) else none

def unV (op : UnOp) : V → Option V
  | .bool b => match op with | .not => some (.bool !b) | _ => none
  | .int k n => match op with
    | .neg => some (.int k (k.wrap (0 - n)))
    | .xor => some (.int k (k.wrap (BitVec.ofInt k.bits (if k.signed then -1 else k.max) ^^^ BitVec.ofInt k.bits n).toNat))
    | _ => none
  | _ => none

def convV (P : Program) (src dst : TypeId) : V → Option V
  | .int _ n => if (P.underlying src).isSome then (intT P dst).map fun k => .int k (k.wrap n) else none
  | _ => none

def bnd (v : Option V) (dflt max : Nat) : Option Nat :=
  match v with
  | none => some dflt
  | some (.int _ i) => if 0 ≤ i ∧ i ≤ max then some i.toNat else none
  | some _ => none

def bD (esz : Nat) (x : V) (lo hi mx : Option V) : Option V :=
  match x with
  | .nils => (bnd mx 0 0).bind fun m => (bnd hi 0 m).bind fun h => (bnd lo 0 h).bind fun _ => some .nils
  | .sl sz es full => if sz = esz then (bnd mx es.length es.length).bind fun m => (bnd hi es.length m).bind fun h => (bnd lo 0 h).bind fun l =>
      some (.sl sz ((es.take h).drop l) (if mx.isSome then decide (m = h) else full && decide (h = es.length))) else none
  | .osl b i n sz full => if sz = esz then (bnd mx n n).bind fun m => (bnd hi n m).bind fun h => (bnd lo 0 h).bind fun l =>
      some (if l = 0 ∨ l < h then .osl b (i + l) (h - l) sz (if mx.isSome then decide (m = h) else full && decide (h = n)) else .sl sz [] false) else none
  | .rsl b off n sz => if sz = esz ∧ mx.isNone = true then (bnd hi n n).bind fun h => (bnd lo 0 h).bind fun l =>
      some (if l = 0 ∨ l < h then .rsl b (off + l * sz) (h - l) sz else .sl sz [] false) else none
  | _ => none

def sliceArr (n esz : Nat) (x : V) (lo hi : Option V) : Option V :=
  (bnd hi n n).bind fun h => (bnd lo 0 h).bind fun l => match x with
    | .ptr b off => some (.rsl b (if l = n then off else off + l * esz) (h - l) esz)
    | .cptr e off => if off + h * esz ≤ e.length ∧ l < n then some (.sl esz (bG esz (h - l) (e.drop (off + l * esz))) (decide (h = n))) else none
    | _ => none

def sliceStr (x : V) (lo hi : Option V) : Option V :=
  match x with
  | .str s => (bnd hi s.size s.size).bind fun h => (bnd lo 0 h).bind fun l => some (.str (s.extract l h))
  | _ => none

def bf (P : Program) (t : TypeId) (x : V) (lo hi mx : Option V) : Option V :=
  if mx.isSome = true ∧ hi.isNone = true then none else
  match arrT P t, sliT P t, P.underlying t with
  | some (n, esz), _, _ => if mx.isSome = true then none else sliceArr n esz x lo hi
  | none, some esz, _ => bD esz x lo hi mx
  | none, none, some .string => if mx.isSome = true then none else sliceStr x lo hi
  | _, _, _ => none

def bp (x : V) (o : Nat) : Option V :=
  match x with
  | .ptr b off => some (.ptr b (off + o))
  | .eptr b i off sz => some (.eptr b i (off + o) sz)
  | .cptr e off => some (.cptr e (off + o))
  | _ => none

def idxOf (ix : V) (n : Nat) : Option Nat :=
  match ix with
  | .int _ i => if 0 ≤ i ∧ i < n then some i.toNat else none
  | _ => none

def bw (P : Program) (t : TypeId) (x ix : V) : Option V :=
  match arrT P t with
  | some (n, esz) => (idxOf ix n).bind fun i => bp x (i * esz)
  | none => (sliT P t).bind fun esz => match x with
    | .sl sz es _ => if sz = esz then (idxOf ix es.length).bind fun i => (es[i]?).map fun e => .cptr e 0 else none
    | .osl b i0 n sz _ => if sz = esz then (idxOf ix n).map fun i => .eptr b (i0 + i) 0 sz else none
    | .rsl b off n sz => if sz = esz then (idxOf ix n).map fun i => .ptr b (off + i * sz) else none
    | _ => none

def indexV (P : Program) (t : TypeId) (x ix : V) : Option V :=
  match P.underlying t, x with
  | some (.array n e), .agg cs => (idxOf ix n).bind fun i => match tyT P e with
    | some (c, sz) => ldc (some (c, sz)) cs (i * sz)
    | none => none
  | some .string, .str s => (idxOf ix s.size).bind fun i => (s[i]?).map fun b => .int .u8 b.toNat
  | _, _ => none

def fieldV (P : Program) (t : TypeId) (x : V) (f : Nat) : Option V :=
  match fldT P t f, x with
  | some (o, ft), .agg cs => ldc (tyT P ft) cs o
  | _, _ => none

def aW : V → Option (List V)
  | .agg cs => some cs
  | .junk => none
  | .tup _ => none
  | x => some [x]

/-- xs laid over cells from place o on. -/
def br (cells : List V) (o : Nat) (xs : List V) : List V := cells.take o ++ (xs ++ cells.drop (o + xs.length))

def fillV (place : Nat → Option (Nat × Nat)) (cells : List V) : List (Nat × V) → Option (List V)
  | [] => some cells
  | (i, v) :: rest => match place i, aW v with
    | some (off, size), some xs => if xs.length = size ∧ off + xs.length ≤ cells.length then fillV place (br cells off xs) rest else none
    | _, _ => none

def bF : Value → V
  | .int k n => .int k n
  | .bool b => .bool b
  | .string s => .str s
  | .pointer none => .nilp
  | .slice none 0 0 => .nils
  | .map none => .nilm
  | .nilFunc => .niln
  | _ => .junk

/-- The zero cells of a type. -/
def zeroT (P : Program) (t : TypeId) : Option (List V) :=
  (P.info? t).bind fun i => i.zero.map fun z => z.cells.toList.map bF

def placeT (P : Program) (t : TypeId) : Nat → Option (Nat × Nat) :=
  match P.underlying t with
  | some (.struct fs) => if fs.all (fun f => (P.info? f.type).isSome) then fun i => (fs[i]?).map fun f => (f.offset, P.cellsOf f.type) else fun _ => none
  | some (.array _ e) => if (P.info? e).isSome then fun i => some (i * P.cellsOf e, P.cellsOf e) else fun _ => none
  | _ => fun _ => none

def buildOk (P : Program) (t : TypeId) : Bool :=
  match P.underlying t with
  | some (.struct fs) => fs.all (fun f => (P.info? f.type).isSome)
  | some (.array _ e) => (P.info? e).isSome
  | _ => false

def bH (P : Program) (t : TypeId) (parts : List (Nat × V)) : Option V :=
  if buildOk P t then (zeroT P t).bind fun z => (fillV (placeT P t) z parts).map .agg else none

def lenV (P : Program) (t : TypeId) (x : V) : Option V :=
  match P.underlying t with
  | some (.slice _) => (slen x).map fun (m : Nat) => V.int .i64 (m : Int)
  | some .string => match x with | .str s => some (.int .i64 s.size) | _ => none
  | some (.array n _) => some (.int .i64 n)
  | _ => none

def capV (P : Program) (t : TypeId) (x : V) : Option V :=
  match P.underlying t with
  | some (.slice _) => match x with
    | .nils => some (.int .i64 0)
    | .sl _ es true => some (.int .i64 es.length)
    | _ => none
  | _ => none

def min2V : V → V → Option V
  | .int k x, .int _ y => some (.int k (if y < x then y else x))
  | _, _ => none
def max2V : V → V → Option V
  | .int k x, .int _ y => some (.int k (if y > x then y else x))
  | _, _ => none
def foldV (f : V → V → Option V) : V → List V → Option V
  | x, [] => some x
  | x, y :: ys => (f x y).bind fun z => foldV f z ys

def builtinV (P : Program) (b : Builtin) (ats : List TypeId) (args : List V) : Option V :=
  match b, ats, args with
  | .len, [t], [x] => lenV P t x
  | .cap, [t], [x] => capV P t x
  | .min, _, x :: xs => foldV min2V x xs
  | .max, _, x :: xs => foldV max2V x xs
  | _, _, _ => none

def pval (P : Program) (H : Hp) (ev : Operand → V) : Op → Option V
  | .move x => some (ev x)
  | .assign x => some (ev x)
  | .pick c a b => match ev c with
    | .bool t => some (if t then ev a else ev b)
    | _ => none
  | .load t a => (aK H (ev a)).bind fun (c, o) => ldc (tyT P t) c o
  | .nilCheck x => match ev x with
    | .ptr b o => some (.ptr b o)
    | .eptr b i o s => some (.eptr b i o s)
    | .cptr e o => some (.cptr e o)
    | .fn (.func f) xs ys => some (.fn (.func f) xs ys)
    | _ => none
  | .binOp op t x y _ => aI P op t (ev x) (ev y)
  | .unOp op _ x => unV op (ev x)
  | .convert src dst x => convV P src dst (ev x)
  | .makeFunc f xs ys => some (.fn f (xs.toList.map ev) (ys.toList.map ev))
  | .slice t x lo hi mx => bf P t (ev x) (lo.map ev) (hi.map ev) (mx.map ev)
  | .fieldAddr s x f => (fldT P s f).bind fun (o, _) => bp (ev x) o
  | .field t x f => fieldV P t (ev x) f
  | .indexAddr t x i => bw P t (ev x) (ev i)
  | .index t x i => indexV P t (ev x) (ev i)
  | .extract t i => match ev t with
    | .tup vs => vs[i]?
    | _ => none
  | .build t parts => bH P t (parts.toList.map fun (i, x) => (i, ev x))
  | .call c => match c.callee with
    | .builtin b => builtinV P b c.argTypes.toList (c.args.toList.map ev)
    | _ => none
  | _ => none

end Go.Av

namespace Go.Av
open Go.RowKit

theorem arith_sound {P : Program} {k : K} {w : World} {op : BinOp} {t : TypeId} {i j : IntKind} {a b : Int} {z : V} (hij : isShift op = true ∨ i = j) (h : bz op i a b = some z) :
    ∃ r, (Go.binOp op t (.int i a) (.int j b)).run P w = .ok r w ∧ Conc k r z := by
  cases op
  case shl =>
    simp only [bz] at h
    split at h
    · cases h
    · rename_i hb
      cases h
      exact ⟨_, by simp [Go.binOp, Op.shift, hb], .int _ _⟩
  case shr =>
    simp only [bz] at h
    split at h
    · cases h
    · rename_i hb
      cases h
      exact ⟨_, by simp [Go.binOp, Op.shift, hb], .int _ _⟩
  all_goals
    have hij : i = j := by simpa [isShift] using hij
    subst hij
    simp only [bz] at h
  case quo =>
    split at h
    · cases h
    · rename_i hb
      cases h
      exact ⟨_, by simp [Go.binOp, Op.intDiv, hb], .int _ _⟩
  case rem =>
    split at h
    · cases h
    · rename_i hb
      cases h
      exact ⟨_, by simp [Go.binOp, Op.intDiv, hb], .int _ _⟩
  all_goals cases h
  case add => exact ⟨_, by simp [Go.binOp, Op.intArith], .int _ _⟩
  case sub => exact ⟨_, by simp [Go.binOp, Op.intArith], .int _ _⟩
  case mul => exact ⟨_, by simp [Go.binOp, Op.intArith], .int _ _⟩
  case and => exact ⟨_, by simp only [Go.binOp, ne_eq, not_true_eq_false, ↓reduceIte]; rfl, .int _ _⟩
  case or => exact ⟨_, by simp only [Go.binOp, ne_eq, not_true_eq_false, ↓reduceIte]; rfl, .int _ _⟩
  case xor => exact ⟨_, by simp only [Go.binOp, ne_eq, not_true_eq_false, ↓reduceIte]; rfl, .int _ _⟩
  case andNot => exact ⟨_, by simp only [Go.binOp, ne_eq, not_true_eq_false, ↓reduceIte]; rfl, .int _ _⟩
  all_goals exact ⟨_, by simp [Go.binOp, Op.intCmp], .bool _⟩

theorem strOp_sound {P : Program} {k : K} {w : World} {op : BinOp} {t : TypeId} {a b : ByteArray} {z : V} (h : strOp op a b = some z) :
    ∃ r, (Go.binOp op t (.string a) (.string b)).run P w = .ok r w ∧ Conc k r z := by
  cases op <;> simp only [strOp] at h
  case add =>
    split at h
    · cases h
    · rename_i hb
      cases h
      exact ⟨_, by simp only [Go.binOp, Op.stringOp]; rw [if_neg hb]; rfl, .str _⟩
  case eql => cases h; exact ⟨_, rfl, .bool _⟩
  case neq => cases h; exact ⟨_, rfl, .bool _⟩
  all_goals cases h

theorem eqop_sound {P : Program} {k : K} {w : World} {op : BinOp} {t : TypeId} {v u : Value} {r : Bool} {z : V} (hv : ∀ i a, v ≠ .int i a) (hs : ∀ s, v ≠ .string s) (hf : ∀ i a, v ≠ .float i a) (hcx : ∀ i a b, v ≠ .complex i a b)
    (he : (Op.equal t v u).run P w = .ok r w) (h : eqop op r = some z) : ∃ q, (Go.binOp op t v u).run P w = .ok q w ∧ Conc k q z := by
  cases op <;> simp only [eqop] at h <;> cases h
  · refine ⟨.bool r, ?_, .bool _⟩
    cases v <;> first
      | exact absurd rfl (hv _ _)
      | exact absurd rfl (hs _)
      | exact absurd rfl (hf _ _)
      | exact absurd rfl (hcx _ _ _)
      | simp [Go.binOp, he]
  · refine ⟨.bool !r, ?_, .bool _⟩
    cases v <;> first
      | exact absurd rfl (hv _ _)
      | exact absurd rfl (hs _)
      | exact absurd rfl (hf _ _)
      | exact absurd rfl (hcx _ _ _)
      | simp [Go.binOp, he]

theorem cn {P : Program} {w : World} (op : BinOp) (t : TypeId) (ox oy : Operand) {v u : Value} (h1 : v ≠ .nilIface) (h2 : ∀ cs, v ≠ .agg cs) : (eqGuard op t ox oy v u).run P w = .ok () w := by
  cases v <;> first | exact absurd rfl h1 | exact absurd rfl (h2 _) | (simp only [eqGuard]; cases op <;> rfl)

theorem cellEq_iff : ∀ (x y : V) (v u : Value), toVal x = some v → toVal y = some u → (cellEq x y = true ↔ v = u) := by
  intro x y v u hx hy
  cases x <;> cases y <;> simp [toVal] at hx hy <;> subst hx <;> subst hy <;> simp [cellEq]

theorem eqC_iff : ∀ (xs ys : List V) (vs us : List Value), bK xs = some vs → bK ys = some us → (eqC xs ys = true ↔ vs = us)
  | [], [], vs, us, hx, hy => by simp [bK] at hx hy; subst hx; subst hy; simp [eqC]
  | [], y :: ys, vs, us, hx, hy => by
    simp only [bK] at hx hy
    cases hx
    split at hy
    · cases hy; simp [eqC]
    · cases hy
  | x :: xs, [], vs, us, hx, hy => by
    simp only [bK] at hx hy
    cases hy
    split at hx
    · cases hx; simp [eqC]
    · cases hx
  | x :: xs, y :: ys, vs, us, hx, hy => by
    simp only [bK] at hx hy
    split at hx
    · rename_i v vs' h1 h2
      cases hx
      split at hy
      · rename_i u us' h3 h4
        cases hy
        simp only [eqC, Bool.and_eq_true, List.cons.injEq, cellEq_iff x y v u h1 h3, eqC_iff xs ys vs' us' h2 h4]
      · cases hy
    · cases hx

theorem keyLits_len {P : Program} {t : TypeId} (hw : (match P.underlying t with | some (.array _ _) | some (.struct _) => true | _ => false) = true) {d : Nat} {vs : List Value} {l : List Lit} (h : P.keyLits d t vs = some l) : vs.length = P.cellsOf t := by
  cases d with
  | zero => simp [Program.keyLits] at h
  | succ d =>
    unfold Program.keyLits at h
    cases hu : P.underlying t with
    | none => simp [hu] at hw
    | some u =>
      rw [hu] at h hw
      cases u <;> simp at hw
      case array n e => simp only at h; split at h <;> first | (rename_i hl; exact hl) | cases h
      case struct fs => simp only at h; split at h <;> first | (rename_i hl; exact hl.1) | cases h

theorem aggEq_run {P : Program} {k : K} {w : World} {t : TypeId} {cs ds : Array Value} {xs ys : List V} (ht : aggEqT P t = true) (hx : ConcL k cs xs) (hy : ConcL k ds ys)
    (lx : (litsV P t xs).isSome = true) (ly : (litsV P t ys).isSome = true) : (Op.equal t (.agg cs) (.agg ds)).run P w = .ok (eqC xs ys) w := by
  simp only [aggEqT, Bool.and_eq_true] at ht
  obtain ⟨⟨⟨h1, h2⟩, _⟩, h3⟩ := ht
  have hwide : (match P.underlying t with | some (.array _ _) | some (.struct _) => true | _ => false) = true := h3
  unfold litsV at lx ly
  cases ex : bK xs with
  | none => simp [ex] at lx
  | some vs =>
    cases ey : bK ys with
    | none => simp [ey] at ly
    | some us =>
      simp only [ex, ey, Option.bind_some, Option.isSome_iff_exists] at lx ly
      obtain ⟨la, hla⟩ := lx
      obtain ⟨lb, hlb⟩ := ly
      have e1 : cs.toList = vs := toVals_conc xs _ vs (by simp [hx.1]) (fun j v x a b => hx.2 j v x (by simpa using a) b) ex
      have e2 : ds.toList = us := toVals_conc ys _ us (by simp [hy.1]) (fun j v x a b => hy.2 j v x (by simpa using a) b) ey
      have f1 : (Value.agg cs).formed P t = true := by
        have := keyLits_len hwide hla
        rw [← e1, Array.length_toList] at this
        cases hu : P.underlying t with
        | none => simp [hu] at hwide
        | some u => rw [hu] at hwide; cases u <;> simp_all [Value.formed]
      have f2 : (Value.agg ds).formed P t = true := by
        have := keyLits_len hwide hlb
        rw [← e2, Array.length_toList] at this
        cases hu : P.underlying t with
        | none => simp [hu] at hwide
        | some u => rw [hu] at hwide; cases u <;> simp_all [Value.formed]
      obtain ⟨r, hr, hiff⟩ := run_equalIn_deep (P := P) 9980 20 t h1 w 20 20 (.agg cs) (.agg ds) la lb f1 f2 (by simpa [Value.cells, e1] using hla) (by simpa [Value.cells, e2] using hlb)
      have : r = eqC xs ys := by
        have c1 := cells_of_lits 20 t h2 20 vs la hla
        have c2 := cells_of_lits 20 t h2 20 us lb hlb
        rw [Bool.eq_iff_iff, hiff, eqC_iff xs ys vs us ex ey]
        constructor
        · rintro rfl; rw [c1, c2]
        · intro e
          rw [← e] at hlb
          have : some la = some lb := hla.symm.trans hlb
          exact Option.some.inj this
      rw [← this]
      exact hr

theorem nkT_p {P : Program} {t : TypeId} (h : nkT P t = some .p) : ∃ e, P.underlying t = some (.pointer e) := by
  unfold nkT at h
  split at h <;> first | exact ⟨_, by assumption⟩ | cases h
theorem nkT_s {P : Program} {t : TypeId} (h : nkT P t = some .s) : ∃ e, P.underlying t = some (.slice e) := by
  unfold nkT at h
  split at h <;> first | exact ⟨_, by assumption⟩ | cases h
theorem nkT_f {P : Program} {t : TypeId} (h : nkT P t = some .f) : ∃ a b c, P.underlying t = some (.func a b c) := by
  unfold nkT at h
  split at h <;> first | exact ⟨_, _, _, by assumption⟩ | cases h
theorem nkT_m {P : Program} {t : TypeId} (h : nkT P t = some .m) : ∃ a b, P.underlying t = some (.map a b) := by
  unfold nkT at h
  split at h <;> first | exact ⟨_, _, by assumption⟩ | cases h

/-- What the nil kinds look like beneath. -/
inductive NilLike : NK → Bool → Value → Prop
  | p (a : Option Addr) : NilLike .p a.isNone (.pointer a)
  | s (a : Option Addr) (l c : Nat) : NilLike .s a.isNone (.slice a l c)
  | f1 : NilLike .f true .nilFunc
  | f2 (f : Fn) (a b : Array Value) : NilLike .f false (.func f a b)
  | m (a : Option Nat) : NilLike .m a.isNone (.map a)

theorem nilLike_of {k : K} {v : Value} {x : V} {n : NK} {r : Bool} (hx : Conc k v x) (h : nkV x = some n) (hq : nilq x = some r) : NilLike n r v := by
  cases hx <;> simp only [nkV, nilq, Option.some.injEq, reduceCtorEq] at h hq <;> try (subst h; subst hq)
  case nilp => exact .p none
  case ptr => exact .p (some _)
  case eptr => exact .p (some _)
  case cptr => exact .p (some _)
  case nils => exact .s none 0 0
  case sl b off cap sz es full vs hsz hcap hf hM hc => cases es <;> simp at hq; subst hq; subst h; exact .s (some _) _ _
  case osl => exact .s (some _) _ _
  case rsl => exact .s (some _) _ _
  case fn => exact .f2 _ _ _
  case niln => exact .f1
  case mp => exact .m (some _)
  case nilm => exact .m none

theorem isNil_q {x : V} (h : isNil x = true) : nilq x = some true := by
  cases x <;> simp [isNil] at h <;> rfl

theorem nil_run' {P : Program} {w : World} {t : TypeId} {v u : Value} {n : NK} {r s : Bool} (d : Nat) (hn : nkT P t = some n) (hv : NilLike n r v) (hu : NilLike n s u) :
    (s = true → (Op.equalIn (d + 1) t v u).run P w = .ok r w) ∧ (r = true → (Op.equalIn (d + 1) t v u).run P w = .ok s w) := by
  cases hv with
  | p a =>
    obtain ⟨e, he⟩ := nkT_p hn
    cases hu with
    | p b => cases a <;> cases b <;> simp [Op.equalIn, run_underlying he]
  | s a l c =>
    obtain ⟨e, he⟩ := nkT_s hn
    cases hu with
    | s b => cases a <;> cases b <;> simp [Op.equalIn, run_underlying he]
  | f1 =>
    obtain ⟨a, b, c, he⟩ := nkT_f hn
    cases hu <;> simp [Op.equalIn, run_underlying he]
  | f2 =>
    obtain ⟨a, b, c, he⟩ := nkT_f hn
    cases hu <;> simp [Op.equalIn, run_underlying he]
  | m a =>
    obtain ⟨e, c, he⟩ := nkT_m hn
    cases hu with
    | m b => cases a <;> cases b <;> simp [Op.equalIn, run_underlying he]

theorem nilLike_bin {P : Program} {k : K} {w : World} {op : BinOp} {t : TypeId} {v u : Value} {n : NK} {r s q : Bool} {z : V} (ox oy : Operand) (hn : nkT P t = some n) (hv : NilLike n r v) (hu : NilLike n s u)
    (hq : (s = true ∧ q = r) ∨ (r = true ∧ q = s)) (h : eqop op q = some z) : ∃ c, ((do eqGuard op t ox oy v u; Go.binOp op t v u) : Sem Value).run P w = .ok c w ∧ Conc k c z := by
  have he : (Op.equal t v u).run P w = .ok q w := by
    obtain ⟨h1, h2⟩ := nil_run' (P := P) (w := w) 9999 hn hv hu
    rcases hq with ⟨a, rfl⟩ | ⟨a, rfl⟩
    · exact h1 a
    · exact h2 a
  have hg : (eqGuard op t ox oy v u).run P w = .ok () w := cn op t ox oy (by cases hv <;> simp) (by cases hv <;> simp)
  obtain ⟨c, hc, hcc⟩ := eqop_sound (k := k) (by cases hv <;> simp) (by cases hv <;> simp) (by cases hv <;> simp) (by cases hv <;> simp) he h
  exact ⟨c, by simp [hg, hc], hcc⟩

theorem binV_sound {P : Program} {k : K} {w : World} {op : BinOp} {t : TypeId} {v u : Value} {x y z : V} (ox oy : Operand) (hx : Conc k v x) (hy : Conc k u y) (h : aI P op t x y = some z) :
    ∃ c, ((do eqGuard op t ox oy v u; Go.binOp op t v u) : Sem Value).run P w = .ok c w ∧ Conc k c z := by
  unfold aI at h
  split at h
  · rename_i i a j b
    cases hx; cases hy
    have hg : (eqGuard op t ox oy (.int i a) (.int j b)).run P w = .ok () w := cn op t ox oy (by simp) (by simp)
    split at h
    · obtain ⟨c, hc, hcc⟩ := arith_sound (P := P) (k := k) (w := w) (t := t) (j := j) (.inl ‹_›) h
      exact ⟨c, by simp [hg, hc], hcc⟩
    · split at h
      · obtain ⟨c, hc, hcc⟩ := arith_sound (P := P) (k := k) (w := w) (t := t) (.inr ‹_›) h
        exact ⟨c, by simp [hg, hc], hcc⟩
      · cases h
  · cases hx; cases hy
    rename_i a b
    have hg : (eqGuard op t ox oy (.string a) (.string b)).run P w = .ok () w := cn op t ox oy (by simp) (by simp)
    obtain ⟨c, hc, hcc⟩ := strOp_sound (P := P) (k := k) (w := w) (t := t) h
    exact ⟨c, by simp [hg, hc], hcc⟩
  · cases hx; cases hy
    rename_i a b
    split at h
    · rename_i hu
      have hg : (eqGuard op t ox oy (.bool a) (.bool b)).run P w = .ok () w := cn op t ox oy (by simp) (by simp)
      have he : (Op.equal t (.bool a) (.bool b)).run P w = .ok (a == b) w := run_equal_bool w t a b hu
      obtain ⟨c, hc, hcc⟩ := eqop_sound (k := k) (by simp) (by simp) (by simp) (by simp) he h
      exact ⟨c, by simp [hg, hc], hcc⟩
    · cases h
  · split at h
    · rename_i xs ys hcond
      obtain ⟨ht, lx, ly⟩ := hcond
      cases hx with
      | agg cs _ hl1 hc1 =>
        cases hy with
        | agg ds _ hl2 hc2 =>
          have he := aggEq_run (w := w) ht ⟨hl1, hc1⟩ ⟨hl2, hc2⟩ lx ly
          have hgt : P.eqGuardType P.depth t = false := by
            simp only [aggEqT, Bool.and_eq_true, Bool.not_eq_true'] at ht
            exact ht.1.2
          have hg : (eqGuard op t ox oy (.agg cs) (.agg ds)).run P w = .ok () w := run_eqGuard_agg w op t ox oy cs ds hgt
          obtain ⟨c, hc, hcc⟩ := eqop_sound (k := k) (by simp) (by simp) (by simp) (by simp) he h
          exact ⟨c, by simp [hg, hc], hcc⟩
    · cases h
  · split at h
    · cases h
    · rename_i hn
      split at h
      · cases h
      · rename_i hk
        have hk1 : nkV x = nkT P t := by
          cases h' : decide (nkV x = nkT P t) with
          | true => simpa using h'
          | false => exact absurd (.inl (by simpa using h')) hk
        have hk2 : nkV y = nkT P t := by
          cases h' : decide (nkV y = nkT P t) with
          | true => simpa using h'
          | false => exact absurd (.inr (by simpa using h')) hk
        obtain ⟨n, hn'⟩ := Option.ne_none_iff_exists'.1 hn
        rw [hn'] at hk1 hk2
        split at h
        · rename_i hy'
          obtain ⟨r, hr, hz⟩ := Option.bind_eq_some_iff.1 h
          exact nilLike_bin ox oy hn' (nilLike_of hx hk1 hr) (nilLike_of hy hk2 (isNil_q hy')) (.inl ⟨rfl, rfl⟩) hz
        · split at h
          · rename_i hx'
            obtain ⟨r, hr, hz⟩ := Option.bind_eq_some_iff.1 h
            exact nilLike_bin ox oy hn' (nilLike_of hx hk1 (isNil_q hx')) (nilLike_of hy hk2 hr) (.inr ⟨rfl, rfl⟩) hz
          · cases h

theorem unV_sound {P : Program} {k : K} {w : World} {op : UnOp} {v : Value} {x z : V} (hx : Conc k v x) (h : unV op x = some z) : ∃ c, (Op.unary op v).run P w = .ok c w ∧ Conc k c z := by
  unfold unV at h
  split at h
  · cases hx
    split at h
    · cases h; exact ⟨_, rfl, .bool _⟩
    · cases h
  · cases hx
    split at h
    · cases h; exact ⟨_, rfl, .int _ _⟩
    · cases h; exact ⟨_, rfl, .int _ _⟩
    · cases h
  · cases h

theorem intT_spec {P : Program} {t : TypeId} {i : IntKind} (h : intT P t = some i) : P.underlying t = some (.int i) := by
  unfold intT at h
  split at h
  · cases h; assumption
  · cases h

theorem convV_sound {P : Program} {k : K} {w : World} {src dst : TypeId} {v : Value} {x z : V} (hx : Conc k v x) (h : convV P src dst x = some z) : ∃ c, (convert src dst v).run P w = .ok c w ∧ Conc k c z := by
  unfold convV at h
  split at h
  · cases hx
    split at h
    · rename_i hs
      obtain ⟨d, hd⟩ := Option.isSome_iff_exists.1 hs
      simp only [Option.map_eq_some_iff] at h
      obtain ⟨i, hi, rfl⟩ := h
      exact ⟨_, by simp [convert, run_underlying hd, run_underlying (intT_spec hi), Conv.intToInt], .int _ _⟩
    · cases h
  · cases h

end Go.Av

namespace Go.Av
open Go.RowKit

def bndC (v : Option Value) (dflt max : Nat) : Option Nat :=
  match v with
  | none => some dflt
  | some (.int _ i) => if 0 ≤ i ∧ i ≤ max then some i.toNat else none
  | some _ => none

inductive ConcO (k : K) : Option Value → Option V → Prop
  | none : ConcO k none none
  | some (v : Value) (x : V) (h : Conc k v x) : ConcO k (some v) (some x)

theorem ConcO.map {k : K} {f : Operand → Value} {g : Operand → V} (h : ∀ x, Conc k (f x) (g x)) (o : Option Operand) : ConcO k (o.map f) (o.map g) := by
  cases o with
  | none => exact .none
  | some x => exact .some _ _ (h x)

theorem bm {k : K} {u : Option Value} {v : Option V} (h : ConcO k u v) {d m r : Nat} (hb : bnd v d m = some r) {m' : Nat} (hm : m ≤ m') : bndC u d m' = some r := by
  cases h with
  | none => exact hb
  | some u v hc =>
    unfold bnd at hb
    cases v <;> simp only [reduceCtorEq] at hb
    cases hc
    split at hb
    · rename_i hh
      cases hb
      simp only [bndC]
      rw [if_pos (by omega)]
    · cases hb

theorem run_bound {P : Program} {w : World} {u : Value} {d m r : Nat} {code : BoundsCode} (h : bndC (some u) d m = some r) : (Instr.sliceBound u m code).run P w = .ok r w := by
  unfold bndC at h
  cases u <;> simp only [reduceCtorEq] at h
  split at h
  · rename_i hh
    cases h
    simp [Instr.sliceBound, asIntOf, hh]
  · cases h

theorem cf {P : Program} {w : World} {isS : Bool} {len cap : Nat} {lo hi mx : Option Value} {l h m : Nat} (hm : bndC mx cap cap = some m) (hh : bndC hi len m = some h) (hl : bndC lo 0 h = some l)
    (hx : mx.isSome = true → hi.isSome = true) : (Instr.sliceBounds isS len cap lo hi mx).run P w = .ok (l, h, m) w := by
  unfold Instr.sliceBounds
  cases mx with
  | none =>
    simp only [bndC, Option.some.injEq] at hm
    subst hm
    cases hi with
    | none =>
      simp only [bndC, Option.some.injEq] at hh
      subst hh
      cases lo with
      | none => simp only [bndC, Option.some.injEq] at hl; subst hl; simp
      | some v => simp [run_bound hl]
    | some v =>
      cases lo with
      | none => simp only [bndC, Option.some.injEq] at hl; subst hl; simp [run_bound hh]
      | some v' => simp [run_bound hh, run_bound hl]
  | some v =>
    cases hi with
    | none => simp at hx
    | some v' =>
      cases lo with
      | none => simp only [bndC, Option.some.injEq] at hl; subst hl; simp [run_bound hm, run_bound hh]
      | some v'' => simp [run_bound hm, run_bound hh, run_bound hl]

theorem bndC_le {v : Option Value} {d m r : Nat} (h : bndC v d m = some r) (hd : d ≤ m) : r ≤ m := by
  unfold bndC at h
  split at h
  · cases h; exact hd
  · split at h
    · cases h; omega
    · cases h
  · cases h
theorem bnd_le {v : Option V} {d m r : Nat} (h : bnd v d m = some r) (hd : d ≤ m) : r ≤ m := by
  unfold bnd at h
  split at h
  · cases h; exact hd
  · split at h
    · cases h; omega
    · cases h
  · cases h

theorem arrT_spec {P : Program} {t : TypeId} {n sz : Nat} (h : arrT P t = some (n, sz)) : ∃ e i, P.underlying t = some (.array n e) ∧ P.info? e = some i ∧ i.size = sz := by
  unfold arrT at h
  split at h
  · simp only [Option.map_eq_some_iff, Prod.mk.injEq] at h
    obtain ⟨i, hi, rfl, rfl⟩ := h
    exact ⟨_, i, by assumption, hi, rfl⟩
  · cases h
theorem sliT_spec {P : Program} {t : TypeId} {sz : Nat} (h : sliT P t = some sz) : ∃ e i, P.underlying t = some (.slice e) ∧ P.info? e = some i ∧ i.size = sz := by
  unfold sliT at h
  split at h
  · simp only [Option.map_eq_some_iff] at h
    obtain ⟨i, hi, rfl⟩ := h
    exact ⟨_, i, by assumption, hi, rfl⟩
  · cases h

theorem run_sizeOf' {P : Program} {w : World} {t : TypeId} {i : TypeInfo} (h : P.info? t = some i) : (sizeOf t).run P w = .ok i.size w := by simp [sizeOf, typeInfo, h]

theorem bM (sz : Nat) : ∀ (n : Nat) (cs : List V), (bG sz n cs).length = n
  | 0, _ => rfl
  | n + 1, cs => by simp [bG, bM sz n]
theorem chunks_get (sz : Nat) : ∀ (n : Nat) (cs : List V) (i : Nat), i < n → (bG sz n cs)[i]? = some ((cs.drop (i * sz)).take sz)
  | 0, _, _, h => absurd h (Nat.not_lt_zero _)
  | n + 1, cs, 0, _ => by simp [bG]
  | n + 1, cs, i + 1, h => by
    simp only [bG, List.getElem?_cons_succ]
    rw [chunks_get sz n (cs.drop sz) i (by omega), List.drop_drop, Nat.succ_mul, Nat.add_comm]
theorem chunks_mem_len {sz n : Nat} {cs : List V} (h : n * sz ≤ cs.length) : ∀ e ∈ bG sz n cs, e.length = sz := by
  intro e he
  obtain ⟨i, hi⟩ := List.mem_iff_getElem?.1 he
  have hlt : i < n := by have := (List.getElem?_eq_some_iff.1 hi).1; rwa [bM] at this
  rw [chunks_get sz n cs i hlt] at hi
  cases hi
  have : (i + 1) * sz ≤ n * sz := Nat.mul_le_mul_right _ hlt
  rw [Nat.succ_mul] at this
  simp; omega

theorem chunk_idx {sz h l i j : Nat} (hh : i < h - l) (hj : j < sz) (hle : l ≤ h) : (l + i) * sz + j < h * sz := by
  have : (l + i + 1) * sz ≤ h * sz := Nat.mul_le_mul_right _ (by omega)
  rw [Nat.succ_mul] at this
  omega

theorem bnd_some_le {v : V} {d m r : Nat} (h : bnd (some v) d m = some r) : r ≤ m := by
  unfold bnd at h
  cases v <;> simp only [reduceCtorEq] at h
  split at h
  · cases h; omega
  · cases h
theorem bndC_some {u : Value} {d d' m r : Nat} (h : bndC (some u) d m = some r) : bndC (some u) d' m = some r := by
  unfold bndC at h ⊢
  cases u <;> exact h
theorem ConcO.none_of {k : K} {u : Option Value} {v : Option V} (h : ConcO k u v) (hv : v.isSome ≠ true) : u = Option.none := by
  cases h with
  | none => rfl
  | some _ _ _ => simp at hv
theorem ConcO.isSome {k : K} {u : Option Value} {v : Option V} (h : ConcO k u v) : u.isSome = v.isSome := by cases h <;> rfl

theorem sliceArr_sound {P : Program} {k : K} {w : World} {t : TypeId} {v : Value} {x z : V} {lo hi : Option Value} {lo' hi' : Option V} {n esz : Nat} (hat : arrT P t = some (n, esz)) (hx : Conc k v x)
    (h1 : ConcO k lo lo') (h2 : ConcO k hi hi') (h : sliceArr n esz x lo' hi' = some z) : ∃ c, (Instr.sliceAt t v lo hi none).run P w = .ok c w ∧ Conc k c z := by
  obtain ⟨e, i, hu, hi', hsz⟩ := arrT_spec hat
  simp only [sliceArr, Option.bind_eq_some_iff] at h
  obtain ⟨hb, hhb, lb, hlb, h⟩ := h
  have hle1 := bnd_le hhb (Nat.le_refl _)
  have hle2 := bnd_le hlb (Nat.zero_le _)
  have hB : (Instr.sliceBounds false n n lo hi none).run P w = .ok (lb, hb, n) w :=
    cf (m := n) rfl (bm h2 hhb (Nat.le_refl _)) (bm h1 hlb (Nat.le_refl _)) (by simp)
  cases hx <;> try (simp at h; done)
  case ptr b off =>
    simp only [Option.some.injEq] at h
    subst h
    refine ⟨.slice (some (if n = lb then ⟨b, off, none⟩ else (⟨b, off, none⟩ : Addr).add (lb * esz))) (hb - lb) (n - lb), ?_, ?_⟩
    · simp [Instr.sliceAt, run_underlying hu, Instr.sureAddr, hB, run_sizeOf' hi', hsz]
    · have : (if n = lb then (⟨b, off, none⟩ : Addr) else (⟨b, off, none⟩ : Addr).add (lb * esz)) = ⟨b, if lb = n then off else off + lb * esz, none⟩ := by
        by_cases e' : lb = n
        · simp [e']
        · rw [if_neg (fun q => e' q.symm), if_neg e', bO]
      rw [this]
      exact .rsl _ _ _ _ _ (by omega)
  case cptr b o off el vs hM hc =>
    dsimp only at h
    split at h
    · rename_i hcond
      simp only [Option.some.injEq] at h
      subst h
      refine ⟨.slice (some ((⟨b, o + off, none⟩ : Addr).add (lb * esz))) (hb - lb) (n - lb), ?_, ?_⟩
      · have : ¬ n = lb := by omega
        simp [Instr.sliceAt, run_underlying hu, Instr.sureAddr, hB, run_sizeOf' hi', hsz, this]
      · rw [bO]
        have hlen : hb * esz ≤ el.length - off := by omega
        have key : ∀ i j, i < hb - lb → j < esz → off + (lb * esz + i * esz + j) < el.length := by
          intro i j hi hj
          have := chunk_idx hi hj hle2
          rw [Nat.add_mul] at this
          omega
        have hL : (hb - lb) = (bG esz (hb - lb) (el.drop (off + lb * esz))).length := (bM _ _ _).symm
        rw (config := { occs := .pos [1] }) [hL]
        refine .sl b (o + off + lb * esz) (n - lb) esz _ _ (fun i j => vs (off + (lb * esz + i * esz + j))) ?_ (by rw [bM]; omega) ?_ ?_ ?_
        · refine chunks_mem_len ?_
          have : (hb - lb) * esz = hb * esz - lb * esz := Nat.sub_mul _ _ _
          simp; omega
        · intro hf
          rw [bM]
          have : hb = n := by simpa using hf
          omega
        · intro i j hi hj
          rw [bM] at hi
          have := hM _ (key i j hi hj)
          rw [← this]
          congr 1
          omega
        · intro i e' j y he hj
          have hi : i < hb - lb := by have := (List.getElem?_eq_some_iff.1 he).1; rwa [bM] at this
          rw [chunks_get _ _ _ _ hi] at he
          cases he
          have hj' : j < esz := by
            have := (List.getElem?_eq_some_iff.1 hj).1
            simp only [List.length_take] at this
            omega
          rw [List.getElem?_take_of_lt hj', List.getElem?_drop, List.getElem?_drop] at hj
          refine hc _ _ ?_
          rw [← hj]
          congr 1
          omega
    · cases h

theorem sliceSl_sound {P : Program} {k : K} {w : World} {t : TypeId} {v : Value} {x z : V} {lo hi mx : Option Value} {lo' hi' mx' : Option V} {esz : Nat} (hst : sliT P t = some esz) (hx : Conc k v x)
    (h1 : ConcO k lo lo') (h2 : ConcO k hi hi') (h3 : ConcO k mx mx') (hxx : mx'.isSome = true → hi'.isSome = true) (h : bD esz x lo' hi' mx' = some z) :
    ∃ c, (Instr.sliceAt t v lo hi mx).run P w = .ok c w ∧ Conc k c z := by
  obtain ⟨e, i, hu, hi', hsz⟩ := sliT_spec hst
  rw [← h3.isSome, ← h2.isSome] at hxx
  have hAt : ∀ (v : Value) (lo hi mx : Option Value), (Instr.sliceAt t v lo hi mx).run P w = (Instr.slice t v lo hi mx).run P w := fun v lo hi mx => by simp [Instr.sliceAt, run_underlying hu]
  rw [hAt]
  cases hx <;> try (simp [bD] at h; done)
  case nils =>
    simp only [bD, Option.bind_eq_some_iff, Option.some.injEq] at h
    obtain ⟨m, hm, hb, hhb, lb, hlb, rfl⟩ := h
    have e1 := bnd_le hm (Nat.le_refl _)
    have e2 := bnd_le hhb (Nat.zero_le _)
    have e3 := bnd_le hlb (Nat.zero_le _)
    have hB : (Instr.sliceBounds true 0 0 lo hi mx).run P w = .ok (lb, hb, m) w := cf (bm h3 hm (Nat.le_refl _)) (bm h2 hhb (Nat.le_refl _)) (bm h1 hlb (Nat.le_refl _)) hxx
    obtain rfl : m = 0 := by omega
    obtain rfl : hb = 0 := by omega
    obtain rfl : lb = 0 := by omega
    exact ⟨.slice none 0 0, by simp [Instr.slice, run_underlying hu, hB, run_sizeOf' hi'], .nils⟩
  case slnil sz full =>
    simp only [bD] at h
    split at h
    · simp only [Option.bind_eq_some_iff, Option.some.injEq] at h
      obtain ⟨m, hm, hb, hhb, lb, hlb, rfl⟩ := h
      have e1 := bnd_le hm (Nat.le_refl _)
      have e2 := bnd_le hhb (by simp)
      have e3 := bnd_le hlb (Nat.zero_le _)
      have hB : (Instr.sliceBounds true 0 0 lo hi mx).run P w = .ok (lb, hb, m) w := cf (bm h3 hm (Nat.le_refl _)) (bm h2 hhb (Nat.le_refl _)) (bm h1 hlb (Nat.le_refl _)) hxx
      simp only [List.length_nil, Nat.le_zero] at e1
      obtain rfl : m = 0 := by omega
      obtain rfl : hb = 0 := by omega
      obtain rfl : lb = 0 := by omega
      exact ⟨.slice none 0 0, by simp [Instr.slice, run_underlying hu, hB, run_sizeOf' hi'], .slnil _ _⟩
    · cases h
  case slz ad0 sz full =>
    simp only [bD] at h
    split at h
    · simp only [Option.bind_eq_some_iff, Option.some.injEq] at h
      obtain ⟨m, hm, hb, hhb, lb, hlb, rfl⟩ := h
      have e1 := bnd_le hm (Nat.le_refl _)
      have e2 := bnd_le hhb (by simp)
      have e3 := bnd_le hlb (Nat.zero_le _)
      have hB : (Instr.sliceBounds true 0 0 lo hi mx).run P w = .ok (lb, hb, m) w := cf (bm h3 hm (Nat.le_refl _)) (bm h2 hhb (Nat.le_refl _)) (bm h1 hlb (Nat.le_refl _)) hxx
      simp only [List.length_nil, Nat.le_zero] at e1
      obtain rfl : m = 0 := by omega
      obtain rfl : hb = 0 := by omega
      obtain rfl : lb = 0 := by omega
      exact ⟨.slice (some ad0) 0 0, by simp [Instr.slice, run_underlying hu, hB, run_sizeOf' hi'], .slz _ _ _⟩
    · cases h
  case sl b off cap sz es full vs hszs hcap hf hM hc =>
    simp only [bD] at h
    split at h
    · rename_i hse
      simp only [Option.bind_eq_some_iff, Option.some.injEq] at h
      obtain ⟨m, hm, hb, hhb, lb, hlb, rfl⟩ := h
      have e1 := bnd_le hm (Nat.le_refl _)
      have e3 := bnd_le hlb (Nat.zero_le _)
      have e2 : hb ≤ m := by
        cases h2 with
        | none =>
          simp only [bnd, Option.some.injEq] at hhb
          cases h3 with
          | none => simp only [bnd, Option.some.injEq] at hm; omega
          | some _ _ _ => simp at hxx
        | some u' v'' hc'' => exact bnd_some_le hhb
      obtain ⟨m', hB, hm1, hm2, hm3⟩ : ∃ m', (Instr.sliceBounds true es.length cap lo hi mx).run P w = .ok (lb, hb, m') w ∧ hb ≤ m' ∧ m' ≤ cap ∧ (mx'.isSome = true → m' = m) ∧ (mx'.isSome ≠ true → m' = cap) := by
        cases h3 with
        | none =>
          simp only [bnd, Option.some.injEq] at hm
          subst hm
          exact ⟨cap, cf rfl (bm h2 hhb hcap) (bm h1 hlb (Nat.le_refl _)) hxx, by omega, Nat.le_refl _, by simp, by simp⟩
        | some u v' hc' =>
          have := bm (.some _ _ hc') hm hcap
          exact ⟨m, cf (bndC_some this) (bm h2 hhb (Nat.le_refl _)) (bm h1 hlb (Nat.le_refl _)) hxx, by omega, by omega, by simp, by simp⟩
      refine ⟨_, by simp only [Instr.slice, Sem.run_bind, run_underlying hu, Result.andThen_ok, hB, run_sizeOf' hi', Sem.run_pure]; rfl, ?_⟩
      have hL : (hb - lb) = ((es.take hb).drop lb).length := by simp; omega
      by_cases e' : m' = lb
      · have e0 : (es.take hb).drop lb = [] := List.eq_nil_of_length_eq_zero (by rw [← hL]; omega)
        rw [if_pos e', e0, show hb - lb = ([] : List (List V)).length by simp; omega]
        exact .sl b off (m' - lb) sz [] _ vs (by simp) (by simp) (by intro hf'; simp; omega) (by simp) (by simp)
      · rw [if_neg e', hL]
        simp only [Option.map_some]
        rw [hsz, ← hse, bO]
        refine .sl b (off + lb * sz) (m' - lb) sz _ _ (fun i j => vs (lb + i) j) ?_ (by rw [← hL]; omega) ?_ ?_ ?_
        · intro e he
          exact hszs e (List.mem_of_mem_take (List.mem_of_mem_drop he))
        · intro hf'
          rw [← hL]
          split at hf'
          · rename_i hs; have := hm3.1 hs; simp only [decide_eq_true_eq] at hf'; omega
          · rename_i hs
            have := hm3.2 hs
            simp only [Bool.and_eq_true, decide_eq_true_eq] at hf'
            have := hf hf'.1
            omega
        · intro i j hi hj
          rw [← hL] at hi
          have := hM (lb + i) j (by omega) hj
          rw [← this, Nat.add_mul]
          congr 1
          omega
        · intro i e j x he hx
          rw [List.getElem?_drop, List.getElem?_take] at he
          split at he
          · exact hc (lb + i) e j x he hx
          · cases he
    · cases h
  case osl b i0 n sz cap c full hR hcap hc hf =>
    simp only [bD] at h
    split at h
    · rename_i hse
      simp only [Option.bind_eq_some_iff, Option.some.injEq] at h
      obtain ⟨m, hm, hb, hhb, lb, hlb, h⟩ := h
      subst h
      have e1 := bnd_le hm (Nat.le_refl _)
      have e3 := bnd_le hlb (Nat.zero_le _)
      obtain ⟨m', hB, hm1, hm2, hm3⟩ : ∃ m', (Instr.sliceBounds true n cap lo hi mx).run P w = .ok (lb, hb, m') w ∧ hb ≤ m' ∧ m' ≤ cap ∧ (mx'.isSome = true → m' = m) ∧ (mx'.isSome ≠ true → m' = cap) := by
        cases h3 with
        | none =>
          simp only [bnd, Option.some.injEq] at hm
          subst hm
          have := bnd_le hhb (Nat.le_refl _)
          exact ⟨cap, cf rfl (bm h2 hhb hcap) (bm h1 hlb (Nat.le_refl _)) hxx, by omega, Nat.le_refl _, by simp, by simp⟩
        | some u v' hc' =>
          have := bm (.some _ _ hc') hm hcap
          refine ⟨m, cf (bndC_some this) (bm h2 hhb (Nat.le_refl _)) (bm h1 hlb (Nat.le_refl _)) hxx, ?_, by omega, by simp, by simp⟩
          simp only [Option.isSome_some, forall_const] at hxx
          cases h2 with
          | none => simp at hxx
          | some u' v'' hc'' => exact bnd_some_le hhb
      refine ⟨_, by simp only [Instr.slice, Sem.run_bind, run_underlying hu, Result.andThen_ok, hB, run_sizeOf' hi', Sem.run_pure]; rfl, ?_⟩
      by_cases hl0 : lb = 0 ∨ lb < hb
      · rw [if_pos hl0]
        have ha : (if m' = lb then (some ⟨b, i0 * sz, none⟩ : Option Addr) else (some ⟨b, i0 * sz, none⟩ : Option Addr).map (·.add (lb * i.size))) = some ⟨b, (i0 + lb) * sz, none⟩ := by
          split
          · rcases hl0 with rfl | hl0
            · simp
            · omega
          · rw [Nat.add_mul]; simp [bO, hsz, hse]
        rw [ha]
        refine .osl b (i0 + lb) (hb - lb) sz (m' - lb) c _ hR (by omega) ?_ ?_
        · have : (i0 + lb + (m' - lb)) * sz ≤ (i0 + cap) * sz := Nat.mul_le_mul_right _ (by omega)
          omega
        · intro hf'
          split at hf'
          · rename_i hs; have := hm3.1 hs; simp only [decide_eq_true_eq] at hf'; omega
          · rename_i hs
            have := hm3.2 hs
            simp only [Bool.and_eq_true, decide_eq_true_eq] at hf'
            have := hf hf'.1
            omega
      · rw [if_neg hl0]
        have e0 : hb - lb = ([] : List (List V)).length := by simp; omega
        rw [e0]
        split
        · exact .sl b _ (m' - lb) sz [] false (fun _ _ => undef) (by simp) (by simp) (by simp) (by simp) (by simp)
        · simp only [Option.map_some, bO]
          exact .sl b _ (m' - lb) sz [] false (fun _ _ => undef) (by simp) (by simp) (by simp) (by simp) (by simp)
    · cases h
  case rsl b off n sz cap hcap =>
    simp only [bD] at h
    split at h
    · rename_i hse
      obtain ⟨hse, hmx⟩ := hse
      have hmn : mx = Option.none := h3.none_of (by cases mx' <;> simp_all)
      subst hmn
      simp only [Option.bind_eq_some_iff, Option.some.injEq] at h
      obtain ⟨hb, hhb, lb, hlb, h⟩ := h
      subst h
      have e1 := bnd_le hhb (Nat.le_refl _)
      have e2 := bnd_le hlb (Nat.zero_le _)
      have hB : (Instr.sliceBounds true n cap lo hi none).run P w = .ok (lb, hb, cap) w := cf rfl (bm h2 hhb hcap) (bm h1 hlb (Nat.le_refl _)) (by simp)
      refine ⟨_, by simp only [Instr.slice, Sem.run_bind, run_underlying hu, Result.andThen_ok, hB, run_sizeOf' hi', Sem.run_pure]; rfl, ?_⟩
      by_cases hl0 : lb = 0 ∨ lb < hb
      · rw [if_pos hl0]
        have ha : (if cap = lb then (some ⟨b, off, none⟩ : Option Addr) else (some ⟨b, off, none⟩ : Option Addr).map (·.add (lb * i.size))) = some ⟨b, off + lb * sz, none⟩ := by
          split
          · rcases hl0 with rfl | hl0
            · simp
            · omega
          · simp [bO, hsz, hse]
        rw [ha]
        exact .rsl _ _ _ _ _ (by omega)
      · rw [if_neg hl0]
        have e0 : hb - lb = ([] : List (List V)).length := by simp; omega
        rw [e0]
        split
        · exact .sl b _ (cap - lb) sz [] false (fun _ _ => undef) (by simp) (by simp) (by simp) (by simp) (by simp)
        · simp only [Option.map_some, bO]
          exact .sl b _ (cap - lb) sz [] false (fun _ _ => undef) (by simp) (by simp) (by simp) (by simp) (by simp)
    · cases h

theorem sliceV_sound {P : Program} {k : K} {w : World} {t : TypeId} {v : Value} {x z : V} {lo hi mx : Option Value} {lo' hi' mx' : Option V} (hx : Conc k v x)
    (h1 : ConcO k lo lo') (h2 : ConcO k hi hi') (h3 : ConcO k mx mx') (h : bf P t x lo' hi' mx' = some z) : ∃ c, (Instr.sliceAt t v lo hi mx).run P w = .ok c w ∧ Conc k c z := by
  unfold bf at h
  split at h
  · cases h
  · rename_i hg
    split at h
    · rename_i n esz _ _ hat
      split at h
      · cases h
      · rename_i hm
        rw [h3.none_of hm]
        exact sliceArr_sound hat hx h1 h2 h
    · rename_i esz _ _ hst
      refine sliceSl_sound hst hx h1 h2 h3 (fun hm => ?_) h
      cases hh : hi' with
      | none => exact absurd ⟨hm, by simp [hh]⟩ hg
      | some _ => rfl
    · rename_i hu
      split at h
      · cases h
      · rename_i hm
        rw [h3.none_of hm]
        unfold sliceStr at h
        split at h
        · rename_i s
          simp only [Option.bind_eq_some_iff, Option.some.injEq] at h
          obtain ⟨hb, hhb, lb, hlb, rfl⟩ := h
          cases hx
          have hB : (Instr.sliceBounds false s.size s.size lo hi none).run P w = .ok (lb, hb, s.size) w := cf rfl (bm h2 hhb (Nat.le_refl _)) (bm h1 hlb (Nat.le_refl _)) (by simp)
          exact ⟨.string (s.extract lb hb), by simp [Instr.sliceAt, Instr.slice, run_underlying hu, hB], .str _⟩
        · cases h
    · cases h

end Go.Av

namespace Go.Av
open Go.RowKit

theorem shiftP_sound {k : K} {v : Value} {x z : V} {o : Nat} (hx : Conc k v x) (h : bp x o = some z) : ∃ b p, v = .pointer (some ⟨b, p, none⟩) ∧ Conc k (.pointer (some ⟨b, p + o, none⟩)) z := by
  cases hx <;> simp only [bp, Option.some.injEq, reduceCtorEq] at h
  case ptr b off => subst h; exact ⟨b, off, rfl, .ptr _ _⟩
  case eptr b i off sz => subst h; exact ⟨b, i * sz + off, rfl, by rw [Nat.add_assoc]; exact .eptr _ _ _ _⟩
  case cptr b p off e vs hM hc => subst h; exact ⟨b, p + off, rfl, by rw [Nat.add_assoc]; exact .cptr _ _ _ _ vs hM hc⟩

theorem idxOf_sound {k : K} {v : Value} {x : V} {n i : Nat} (hx : Conc k v x) (h : idxOf x n = some i) : ∃ j q, v = .int j q ∧ 0 ≤ q ∧ q < (n : Int) ∧ q.toNat = i ∧ i < n := by
  cases hx <;> simp only [idxOf, reduceCtorEq] at h
  case int j q =>
    split at h
    · rename_i hq
      simp only [Option.some.injEq] at h
      exact ⟨j, q, rfl, hq.1, hq.2, h, by omega⟩
    · cases h

theorem indexAddrV_sound {P : Program} {k : K} {w : World} {t : TypeId} {v u : Value} {x y z : V} (hx : Conc k v x) (hy : Conc k u y) (h : bw P t x y = some z) :
    ∃ c, (Instr.indexAt t v u).run P w = .ok c w ∧ Conc k c z := by
  unfold bw at h
  split at h
  · rename_i n esz hat
    obtain ⟨e, i, hu, hi', hsz⟩ := arrT_spec hat
    simp only [Option.bind_eq_some_iff] at h
    obtain ⟨j, hj, h⟩ := h
    obtain ⟨kk, q, rfl, h0, h1, h2, _⟩ := idxOf_sound hy hj
    obtain ⟨b, p, rfl, hc⟩ := shiftP_sound hx h
    refine ⟨_, ?_, hc⟩
    simp [Instr.indexAt, asIntOf, run_underlying hu, Instr.sureAddr, h0, h1, run_sizeOf' hi', hsz, h2, bO]
  · simp only [Option.bind_eq_some_iff] at h
    obtain ⟨esz, hst, h⟩ := h
    obtain ⟨e, i, hu, hi', hsz⟩ := sliT_spec hst
    have core : ∀ (b p len cap : Nat) (kk : IntKind) (q : Int), 0 ≤ q → q < (len : Int) → (Instr.indexAt t (.slice (some ⟨b, p, none⟩) len cap) (.int kk q)).run P w = .ok (.pointer (some ⟨b, p + q.toNat * esz, none⟩)) w := by
      intro b p len cap kk q h0 h1
      simp [Instr.indexAt, asIntOf, run_underlying hu, h0, h1, run_sizeOf' hi', hsz, bO]
    cases hx <;> dsimp only at h <;> try (cases h; done)
    case slnil sz full =>
      split at h
      · simp at h
      · cases h
    case slz ad0 sz full =>
      split at h
      · simp at h
      · cases h
    case sl b off cap sz es full vs hszs hcap hf hM hc =>
      split at h
      · rename_i hse
        simp only [Option.bind_eq_some_iff, Option.map_eq_some_iff] at h
        obtain ⟨j, hj, el, hel, rfl⟩ := h
        obtain ⟨kk, q, rfl, h0, h1, h2, h3⟩ := idxOf_sound hy hj
        refine ⟨_, core b off es.length cap kk q h0 h1, ?_⟩
        have hl := hszs el (List.mem_of_getElem? hel)
        have := Conc.cptr (k := k) b (off + j * sz) 0 el (fun m => vs j m) (fun m hm => hM j m h3 (by omega)) (fun m x hx => hc j el m x hel hx)
        rw [h2, ← hse]
        exact this
      · cases h
    case osl b i0 n sz cap c full hR hcap hc hf =>
      split at h
      · rename_i hse
        simp only [Option.map_eq_some_iff] at h
        obtain ⟨j, hj, rfl⟩ := h
        obtain ⟨kk, q, rfl, h0, h1, h2, h3⟩ := idxOf_sound hy hj
        refine ⟨_, core b (i0 * sz) n cap kk q h0 h1, ?_⟩
        rw [h2, ← hse, ← Nat.add_mul]
        exact .eptr b (i0 + j) 0 sz
      · cases h
    case rsl b off n sz cap hcap =>
      split at h
      · rename_i hse
        simp only [Option.map_eq_some_iff] at h
        obtain ⟨j, hj, rfl⟩ := h
        obtain ⟨kk, q, rfl, h0, h1, h2, h3⟩ := idxOf_sound hy hj
        refine ⟨_, core b off n cap kk q h0 h1, ?_⟩
        rw [h2, ← hse]
        exact .ptr _ _
      · cases h

/-- A part of an aggregate. -/
theorem part_sound {P : Program} {k : K} {w : World} {t : TypeId} {cs : Array Value} {xs : List V} {off : Nat} {y : V} (hx : ConcL k cs xs) (hy : ldc (tyT P t) xs off = some y) :
    ∃ u, (part t cs off).run P w = .ok u w ∧ Conc k u y := by
  unfold ldc at hy
  split at hy
  · rename_i n ht
    split at hy
    · rename_i hle
      cases hy
      obtain ⟨ha, hs⟩ := co ht w
      refine ⟨.agg (cs.extract off (off + n)), by simp [part, ha, hs], .agg _ _ ?_ (fun j v x h1 h2 => ?_)⟩
      · have := hx.1
        simp; omega
      · have hj : j < n := by
          have := (List.getElem?_eq_some_iff.1 h2).1
          simp only [List.length_take] at this
          omega
        rw [List.getElem?_take_of_lt hj, List.getElem?_drop] at h2
        rw [Array.getElem?_extract] at h1
        split at h1
        · exact hx.2 _ v x h1 h2
        · cases h1
    · cases hy
  · rename_i n ht
    obtain ⟨ha, hs⟩ := co ht w
    have hlt : off < cs.size := by rw [← hx.1]; exact (List.getElem?_eq_some_iff.1 hy).1
    have e1 : cs[off]? = some cs[off] := by simp [hlt]
    exact ⟨cs[off], by simp [part, ha, e1], hx.2 _ _ _ e1 hy⟩
  · cases hy

theorem indexV_sound {P : Program} {k : K} {w : World} {t : TypeId} {v u : Value} {x y z : V} (hx : Conc k v x) (hy : Conc k u y) (h : indexV P t x y = some z) :
    ∃ c, (Instr.index t v u).run P w = .ok c w ∧ Conc k c z := by
  unfold indexV at h
  split at h
  · rename_i n e cs hu
    simp only [Option.bind_eq_some_iff] at h
    obtain ⟨j, hj, h⟩ := h
    obtain ⟨kk, q, rfl, h0, h1, h2, h3⟩ := idxOf_sound hy hj
    split at h
    · rename_i c sz ht
      cases hx with
      | agg ds _ hl hc =>
        have hs := (co ht w).2
        obtain ⟨r, hr, hcr⟩ := part_sound (P := P) (w := w) (t := e) (off := j * sz) ⟨hl, hc⟩ (by rw [ht]; exact h)
        refine ⟨r, ?_, hcr⟩
        simp [Instr.index, asIntOf, run_underlying hu, h0, h1, hs, h2, hr]
    · cases h
  · rename_i s hu
    simp only [Option.bind_eq_some_iff, Option.map_eq_some_iff] at h
    obtain ⟨j, hj, b, hb, rfl⟩ := h
    obtain ⟨kk, q, rfl, h0, h1, h2, h3⟩ := idxOf_sound hy hj
    cases hx
    refine ⟨.int .u8 b.toNat, ?_, .int _ _⟩
    simp [Instr.index, asIntOf, run_underlying hu, h0, h2, hb]
  · cases h

theorem fldT_spec {P : Program} {s : TypeId} {f o : Nat} {ft : TypeId} (h : fldT P s f = some (o, ft)) : ∃ fs x i, P.underlying s = some (.struct fs) ∧ fs[f]? = some x ∧ x.offset = o ∧ x.type = ft ∧ P.info? x.type = some i ∧ i.size ≠ 0 := by
  unfold fldT at h
  split at h
  · rename_i fs hu
    simp only [Option.bind_eq_some_iff] at h
    obtain ⟨x, hx, h⟩ := h
    split at h
    · rename_i i hi
      split at h
      · cases h
      · rename_i hsz
        cases h
        exact ⟨fs, x, i, hu, hx, rfl, rfl, hi, hsz⟩
    · cases h
  · cases h

theorem fieldV_sound {P : Program} {k : K} {w : World} {t : TypeId} {f : Nat} {v : Value} {x z : V} (hx : Conc k v x) (h : fieldV P t x f = some z) :
    ∃ c, (Instr.field t v f).run P w = .ok c w ∧ Conc k c z := by
  unfold fieldV at h
  split at h
  · rename_i o ft cs hf
    obtain ⟨fs, y, i, hu, hy, rfl, rfl, _, _⟩ := fldT_spec hf
    cases hx with
    | agg ds _ hl hc =>
      obtain ⟨r, hr, hcr⟩ := part_sound (P := P) (w := w) ⟨hl, hc⟩ h
      exact ⟨r, by simp [Instr.field, run_underlying hu, hy, asAgg, hr], hcr⟩
  · cases h

theorem fieldAddr_sound {P : Program} {k : K} {w : World} {s : TypeId} {f o : Nat} {ft : TypeId} {v : Value} {x z : V} (hx : Conc k v x) (hf : fldT P s f = some (o, ft)) (h : bp x o = some z) :
    ∃ c, (Instr.fieldAt s v f).run P w = .ok c w ∧ Conc k c z := by
  obtain ⟨fs, y, i, hu, hy, rfl, rfl, hi, hsz⟩ := fldT_spec hf
  obtain ⟨b, p, rfl, hc⟩ := shiftP_sound hx h
  exact ⟨_, by simp [Instr.fieldAt, run_underlying hu, hy, Instr.sureAddr, fieldPlace, run_sizeOf' hi, hsz, bO], hc⟩

theorem cellsV_sound {k : K} {v : Value} {x : V} {xs : List V} (hx : Conc k v x) (h : aW x = some xs) : ConcL k v.cells xs := by
  have one : ∀ (v : Value) (x : V), Conc k v x → v.cells = #[v] → ConcL k v.cells [x] := fun v x hc hv => by
    rw [hv]
    refine ⟨by simp, fun j v' x' h1 h2 => ?_⟩
    cases j with
    | zero => simp at h1 h2; subst h1; subst h2; exact hc
    | succ j => simp at h2
  cases hx <;> simp only [aW, Option.some.injEq, reduceCtorEq] at h
  case agg cs xs' hl hc => subst h; exact ⟨hl, hc⟩
  all_goals
    subst h
    refine one _ _ ?_ rfl
    constructor <;> assumption

theorem ofVal_conc (k : K) (v : Value) : Conc k v (bF v) := by
  unfold bF
  split <;> first | exact .int _ _ | exact .bool _ | exact .str _ | exact .nilp | exact .nils | exact .nilm | exact .niln | exact .junk _

theorem zeroT_spec {P : Program} {t : TypeId} {z : List V} (h : zeroT P t = some z) : ∃ i v, P.info? t = some i ∧ i.zero = some v ∧ z = v.cells.toList.map bF := by
  unfold zeroT at h
  simp only [Option.bind_eq_some_iff, Option.map_eq_some_iff] at h
  obtain ⟨i, hi, v, hv, rfl⟩ := h
  exact ⟨i, v, hi, hv, rfl⟩

theorem zero_conc {k : K} (cs : Array Value) : ConcL k cs (cs.toList.map bF) :=
  ⟨by simp, fun j v x h1 h2 => by
    simp only [List.getElem?_map, Array.getElem?_toList, h1, Option.map_some, Option.some.injEq] at h2
    subst h2
    exact ofVal_conc k v⟩

theorem splice_get {cells xs : List V} {o j : Nat} (ho : o + xs.length ≤ cells.length) : (br cells o xs)[j]? = if o ≤ j ∧ j < o + xs.length then xs[j - o]? else cells[j]? := by
  unfold br
  by_cases h1 : j < o
  · rw [List.getElem?_append_left (by simp; omega), List.getElem?_take_of_lt h1, if_neg (by omega)]
  · rw [List.getElem?_append_right (by simp; omega)]
    have ht : (cells.take o).length = o := by simp; omega
    rw [ht]
    by_cases h2 : j < o + xs.length
    · rw [List.getElem?_append_left (by omega), if_pos (by omega)]
    · rw [List.getElem?_append_right (by omega), List.getElem?_drop, if_neg (by omega)]
      congr 1
      omega
theorem splice_len {cells xs : List V} {o : Nat} (ho : o + xs.length ≤ cells.length) : (br cells o xs).length = cells.length := by
  simp [br]; omega

theorem foldl_set (xs : List Value) : ∀ (cs : Array Value) (o s : Nat), ((xs.zipIdx s).foldl (fun cs (c, j) => cs.setIfInBounds (o + j) c) cs).size = cs.size ∧
    ∀ (j : Nat), ((xs.zipIdx s).foldl (fun cs (c, j) => cs.setIfInBounds (o + j) c) cs)[j]? = if o + s ≤ j ∧ j < o + s + xs.length ∧ j < cs.size then xs[j - (o + s)]? else cs[j]? := by
  induction xs with
  | nil => intro cs o s; simp; intro j h1 h2 h3; omega
  | cons x xs ih =>
    intro cs o s
    simp only [List.zipIdx_cons, List.foldl_cons]
    obtain ⟨h1, h2⟩ := ih (cs.setIfInBounds (o + s) x) o (s + 1)
    refine ⟨by rw [h1]; simp, fun j => ?_⟩
    rw [h2 j]
    simp only [Array.size_setIfInBounds, List.length_cons]
    by_cases c1 : o + (s + 1) ≤ j ∧ j < o + (s + 1) + xs.length ∧ j < cs.size
    · rw [if_pos c1, if_pos (by omega)]
      have : j - (o + s) = j - (o + (s + 1)) + 1 := by omega
      rw [this, List.getElem?_cons_succ]
    · rw [if_neg c1]
      by_cases c2 : j = o + s
      · subst c2
        by_cases c3 : o + s < cs.size
        · rw [if_pos (by omega)]; simp [c3]
        · rw [if_neg (by omega)]; simp [c3]
      · rw [if_neg (by omega), Array.getElem?_setIfInBounds_ne (by omega)]

theorem fill_sound {k : K} (place : Nat → Option (Nat × Nat)) : ∀ (ps : List (Nat × Value)) (qs : List (Nat × V)) (cs : Array Value) (xs ys : List V), ConcL k cs xs →
    ps.length = qs.length → (∀ (j : Nat) p q, ps[j]? = some p → qs[j]? = some q → p.1 = q.1 ∧ Conc k p.2 q.2) → fillV place xs qs = some ys → ∃ ds, Instr.fill place cs ps = some ds ∧ ConcL k ds ys
  | [], qs, cs, xs, ys, hc, hl, _, h => by
    obtain rfl : qs = [] := List.eq_nil_of_length_eq_zero (by simpa using hl.symm)
    simp only [fillV, Option.some.injEq] at h
    subst h
    exact ⟨cs, rfl, hc⟩
  | p :: ps, qs, cs, xs, ys, hc, hl, hpq, h => by
    cases qs with
    | nil => simp at hl
    | cons q qs =>
      obtain ⟨i, v⟩ := p
      obtain ⟨i', x⟩ := q
      obtain ⟨e1, e2⟩ := hpq 0 (i, v) (i', x) (by simp) (by simp)
      simp only at e1 e2
      subst e1
      simp only [fillV] at h
      split at h
      · rename_i off size zs hp hz
        split at h
        · rename_i hcond
          have hv := cellsV_sound e2 hz
          have hsz : v.cells.size = zs.length := hv.1.symm
          have hcs : xs.length = cs.size := hc.1
          obtain ⟨f1, f2⟩ := foldl_set v.cells.toList cs off 0
          have ih := fill_sound place ps qs (v.cells.zipIdx.foldl (fun cs (c, j) => cs.setIfInBounds (off + j) c) cs) (br xs off zs) ys ?_ (by simpa using hl)
            (fun j p q a b => hpq (j + 1) p q (by simpa using a) (by simpa using b)) h
          · obtain ⟨ds, hd, hcd⟩ := ih
            refine ⟨ds, ?_, hcd⟩
            simp only [Instr.fill, hp]
            rw [if_neg (by simp; omega)]
            exact hd
          · rw [← Array.foldl_toList]
            have hzi : v.cells.zipIdx.toList = v.cells.toList.zipIdx 0 := by simp
            rw [hzi]
            refine ⟨by rw [f1, splice_len (by omega)]; exact hcs, fun j u y a b => ?_⟩
            rw [f2 j] at a
            rw [splice_get (by omega)] at b
            by_cases c1 : off ≤ j ∧ j < off + zs.length
            · rw [if_pos c1] at b
              rw [if_pos (by simp; omega)] at a
              simp only [Nat.add_zero, Array.getElem?_toList] at a
              exact hv.2 _ u y a b
            · rw [if_neg c1] at b
              rw [if_neg (by simp; omega)] at a
              exact hc.2 j u y a b
        · cases h
      · cases h

theorem buildOk_places {P : Program} {t : TypeId} (h : buildOk P t = true) :
    (∃ fs, P.underlying t = some (.struct fs) ∧ (∀ f ∈ fs.toList, (P.info? f.type).isSome = true) ∧ placeT P t = fun i => (fs[i]?).map fun f => (f.offset, P.cellsOf f.type)) ∨
    (∃ n e i, P.underlying t = some (.array n e) ∧ P.info? e = some i ∧ placeT P t = fun j => some (j * i.size, i.size)) := by
  unfold buildOk at h
  unfold placeT
  cases hu : P.underlying t with
  | none => simp [hu] at h
  | some d =>
    rw [hu] at h
    cases d <;> simp only [Bool.false_eq_true] at h
    case struct fs =>
      refine .inl ⟨fs, rfl, fun f hf => ?_, by simp [h]⟩
      rw [Array.all_eq_true_iff_forall_mem] at h
      exact h f (by simpa using hf)
    case array n e =>
      obtain ⟨i, hi⟩ := Option.isSome_iff_exists.1 h
      exact .inr ⟨n, e, i, rfl, hi, by simp [hi, Program.cellsOf]⟩

theorem run_mapM_sizes {P : Program} (w : World) : ∀ (l : List Field), (∀ f ∈ l, (P.info? f.type).isSome = true) →
    (l.mapM (m := Sem) fun f => do pure (f.offset, ← sizeOf f.type)).run P w = .ok (l.map fun f => (f.offset, P.cellsOf f.type)) w
  | [], _ => rfl
  | f :: l, h => by
    obtain ⟨i, hi⟩ := Option.isSome_iff_exists.1 (h f (by simp))
    have ih := run_mapM_sizes w l (fun g hg => h g (by simp [hg]))
    simp only [List.mapM_cons, Sem.run_bind, run_sizeOf' hi, Result.andThen_ok, Sem.run_pure, ih, List.map_cons, Program.cellsOf, hi, Option.map_some, Option.getD_some]

theorem run_zero {P : Program} {w : World} {t : TypeId} {i : TypeInfo} {v : Value} (h : P.info? t = some i) (hz : i.zero = some v) : (zeroValue t).run P w = .ok v w := by
  simp [zeroValue, typeInfo, h, hz]

theorem buildV_sound {P : Program} {k : K} {w : World} {t : TypeId} {ps : Array (Nat × Value)} {qs : List (Nat × V)} {z : V} (hl : ps.size = qs.length)
    (hpq : ∀ (j : Nat) p q, ps[j]? = some p → qs[j]? = some q → p.1 = q.1 ∧ Conc k p.2 q.2) (h : bH P t qs = some z) : ∃ c, (Instr.build t ps).run P w = .ok c w ∧ Conc k c z := by
  unfold bH at h
  split at h
  · rename_i hok
    simp only [Option.bind_eq_some_iff, Option.map_eq_some_iff] at h
    obtain ⟨zs, hz, ys, hy, rfl⟩ := h
    obtain ⟨i, v, hi, hv, rfl⟩ := zeroT_spec hz
    obtain ⟨ds, hd, hcd⟩ := fill_sound (k := k) (placeT P t) ps.toList qs v.cells _ ys (zero_conc v.cells) (by simpa using hl) (fun j p q a b => hpq j p q (by simpa using a) b) hy
    refine ⟨.agg ds, ?_, .agg _ _ hcd.1 hcd.2⟩
    rcases buildOk_places hok with ⟨fs, hu, hfs, hpl⟩ | ⟨n, e, i', hu, hi', hpl⟩
    · have hm := run_mapM_sizes (P := P) w fs.toList hfs
      have hm' : (fs.mapM (m := Sem) fun f => do pure (f.offset, ← sizeOf f.type)).run P w = .ok ((fs.toList.map fun f => (f.offset, P.cellsOf f.type)).toArray) w := by
        rw [Array.mapM_eq_mapM_toList, Sem.run_map, hm]
        rfl
      have hpl' : (fun i => ((fs.toList.map fun f => (f.offset, P.cellsOf f.type)).toArray)[i]?) = placeT P t := by
        rw [hpl]
        funext i
        simp
      simp only [Instr.build, Sem.run_bind, run_zero hi hv, Result.andThen_ok, run_underlying hu, hm', hpl', hd, Sem.run_pure]
    · simp only [Instr.build, Sem.run_bind, run_zero hi hv, Result.andThen_ok, run_underlying hu, run_sizeOf' hi', ← hpl, hd, Sem.run_pure]
  · cases h

end Go.Av

namespace Go.Av
open Go.RowKit

theorem slen_sound {k : K} {v : Value} {x : V} {n : Nat} (hx : Conc k v x) (h : slen x = some n) : ∃ a c, v = .slice a n c := by
  cases hx <;> simp only [slen, Option.some.injEq, reduceCtorEq] at h <;> subst h <;> exact ⟨_, _, rfl⟩

theorem lenV_sound {P : Program} {k : K} {w : World} {t ty : TypeId} {v : Value} {x z : V} (hx : Conc k v x) (h : lenV P t x = some z) : ∃ c, (Builtin.len_ #[t] ty #[v]).run P w = .ok c w ∧ Conc k c z := by
  unfold lenV at h
  split at h
  · rename_i e hu
    simp only [Option.map_eq_some_iff] at h
    obtain ⟨n, hn, rfl⟩ := h
    obtain ⟨a, c, rfl⟩ := slen_sound hx hn
    exact ⟨_, by simp [Builtin.len_, run_underlying hu, goInt], .int _ _⟩
  · rename_i hu
    split at h
    · cases hx
      cases h
      exact ⟨_, by simp [Builtin.len_, run_underlying hu, goInt], .int _ _⟩
    · cases h
  · rename_i n e hu
    cases h
    exact ⟨.int .i64 n, by simp [Builtin.len_, run_underlying hu, goInt], .int _ _⟩
  · cases h

theorem capV_sound {P : Program} {k : K} {w : World} {t ty : TypeId} {v : Value} {x z : V} (hx : Conc k v x) (h : capV P t x = some z) : ∃ c, (Builtin.cap_ #[t] ty #[v]).run P w = .ok c w ∧ Conc k c z := by
  unfold capV at h
  split at h
  · rename_i e hu
    cases hx <;> try (simp at h; done)
    case nils => cases h; exact ⟨_, by simp [Builtin.cap_, run_underlying hu, goInt], .int _ _⟩
    case slnil sz full => cases full <;> simp at h; subst h; exact ⟨_, by simp [Builtin.cap_, run_underlying hu, goInt], .int _ _⟩
    case slz ad0 sz full => cases full <;> simp at h; subst h; exact ⟨_, by simp [Builtin.cap_, run_underlying hu, goInt], .int _ _⟩
    case sl b off cap sz es full vs hsz hcap hf hM hc =>
      cases full <;> simp at h
      subst h
      have := hf rfl
      subst this
      exact ⟨_, by simp [Builtin.cap_, run_underlying hu, goInt], .int _ _⟩
  · cases h

theorem min2V_sound {P : Program} {k : K} {w : World} {v u : Value} {x y z : V} (hx : Conc k v x) (hy : Conc k u y) (h : min2V x y = some z) : ∃ c, (Builtin.min2 v u).run P w = .ok c w ∧ Conc k c z := by
  unfold min2V at h
  split at h
  · cases hx; cases hy; cases h; exact ⟨_, rfl, .int _ _⟩
  · cases h
theorem max2V_sound {P : Program} {k : K} {w : World} {v u : Value} {x y z : V} (hx : Conc k v x) (hy : Conc k u y) (h : max2V x y = some z) : ∃ c, (Builtin.max2 v u).run P w = .ok c w ∧ Conc k c z := by
  unfold max2V at h
  split at h
  · cases hx; cases hy; cases h; exact ⟨_, rfl, .int _ _⟩
  · cases h

theorem foldV_sound {P : Program} {k : K} {w : World} {f : V → V → Option V} {g : Value → Value → Sem Value}
    (hfg : ∀ {v u : Value} {x y z : V}, Conc k v x → Conc k u y → f x y = some z → ∃ c, (g v u).run P w = .ok c w ∧ Conc k c z) :
    ∀ (vs : List Value) (xs : List V) (v : Value) (x z : V), vs.length = xs.length → (∀ (j : Nat) u y, vs[j]? = some u → xs[j]? = some y → Conc k u y) → Conc k v x → foldV f x xs = some z →
      ∃ c, (vs.foldlM g v).run P w = .ok c w ∧ Conc k c z
  | [], xs, v, x, z, hl, _, hx, h => by
    obtain rfl : xs = [] := List.eq_nil_of_length_eq_zero (by simpa using hl.symm)
    simp only [foldV, Option.some.injEq] at h
    subst h
    exact ⟨v, rfl, hx⟩
  | u :: vs, xs, v, x, z, hl, hc, hx, h => by
    cases xs with
    | nil => simp at hl
    | cons y ys =>
      simp only [foldV, Option.bind_eq_some_iff] at h
      obtain ⟨q, hq, h⟩ := h
      obtain ⟨c, hc1, hc2⟩ := hfg hx (hc 0 u y (by simp) (by simp)) hq
      obtain ⟨d, hd1, hd2⟩ := foldV_sound hfg vs ys c q z (by simpa using hl) (fun j u y a b => hc (j + 1) u y (by simpa using a) (by simpa using b)) hc2 h
      exact ⟨d, by simp [List.foldlM_cons, hc1, hd1], hd2⟩

theorem builtinV_sound {P : Program} {k : K} {w : World} {b : Builtin} {ats : Array TypeId} {ty : TypeId} {cs : Array Bool} {vs : Array Value} {xs : List V} {z : V} (hx : ConcL k vs xs)
    (h : builtinV P b ats.toList xs = some z) : ∃ c, (builtin b ats ty cs vs).run P w = .ok (.value c) w ∧ Conc k c z := by
  obtain ⟨atl⟩ := ats
  obtain ⟨vl⟩ := vs
  simp only at h
  unfold builtinV at h
  obtain ⟨hl, hc⟩ := hx
  simp only [List.size_toArray] at hl
  split at h
  · match vl, hl with
    | [v], _ =>
      obtain ⟨c, h1, h2⟩ := lenV_sound (w := w) (ty := ty) (hc 0 v _ (by simp) (by simp)) h
      exact ⟨c, by simp [builtin, h1], h2⟩
  · match vl, hl with
    | [v], _ =>
      obtain ⟨c, h1, h2⟩ := capV_sound (w := w) (ty := ty) (hc 0 v _ (by simp) (by simp)) h
      exact ⟨c, by simp [builtin, h1], h2⟩
  · match vl, hl with
    | v :: vl, hl =>
      obtain ⟨c, h1, h2⟩ := foldV_sound (P := P) (w := w) (g := Builtin.min2) min2V_sound vl _ v _ z (by simpa using hl.symm) (fun j u y a b => hc (j + 1) u y (by simpa using a) (by simpa using b)) (hc 0 v _ (by simp) (by simp)) h
      exact ⟨c, by simp [builtin, Builtin.min_, h1], h2⟩
  · match vl, hl with
    | v :: vl, hl =>
      obtain ⟨c, h1, h2⟩ := foldV_sound (P := P) (w := w) (g := Builtin.max2) max2V_sound vl _ v _ z (by simpa using hl.symm) (fun j u y a b => hc (j + 1) u y (by simpa using a) (by simpa using b)) (hc 0 v _ (by simp) (by simp)) h
      exact ⟨c, by simp [builtin, Builtin.max_, h1], h2⟩
  · cases h

theorem ConcL.of_map {k : K} {f : Operand → Value} {g : Operand → V} (h : ∀ x, Conc k (f x) (g x)) (xs : Array Operand) : ConcL k (xs.map f) (xs.toList.map g) :=
  ⟨by simp, fun j v x a b => by
    simp only [Array.getElem?_map, Option.map_eq_some_iff] at a
    obtain ⟨o, ho, rfl⟩ := a
    simp only [List.getElem?_map, Array.getElem?_toList, ho, Option.map_some, Option.some.injEq] at b
    subst b
    exact h o⟩

/-- **AN OPERATION THAT ONLY COMPUTES.** -/
theorem pval_sound {P : Program} {k : K} {H : Hp} {w : World} {ρ : Operand → Value} {ev : Operand → V} (hr : Rel k H w) (he : ∀ x, Conc k (ρ x) (ev x)) {o : Oper} {z : V} (h : pval P H ev o.op = some z) :
    ∃ c, (execOp ρ o).run P w = .ok (.value c) w ∧ Conc k c z := by
  obtain ⟨dst, op, ty, pos, after, guard⟩ := o
  simp only at h
  cases op <;> simp only [pval, reduceCtorEq] at h
  case move x => cases h; exact ⟨_, rfl, he x⟩
  case assign x => cases h; exact ⟨_, rfl, he x⟩
  case pick c a b =>
    split at h
    · rename_i t ht
      cases h
      have := he c
      rw [ht] at this
      cases hcv : ρ c <;> rw [hcv] at this <;> cases this
      refine ⟨if t then ρ a else ρ b, by simp [execOp, hcv, asBool], ?_⟩
      cases t
      · exact he b
      · exact he a
    · cases h
  case load t a =>
    simp only [Option.bind_eq_some_iff] at h
    obtain ⟨⟨c, o⟩, hp, hl⟩ := h
    obtain ⟨u, h1, h2⟩ := load_sound hr (he a) hp hl
    exact ⟨u, by simp [execOp, h1], h2⟩
  case nilCheck x =>
    have hx := he x
    split at h <;> rename_i hev <;> (try rw [hev] at hx) <;> cases h
    · cases hv : ρ x <;> rw [hv] at hx <;> cases hx
      exact ⟨_, by simp [execOp, hv], .ptr _ _⟩
    · cases hv : ρ x <;> rw [hv] at hx <;> cases hx
      exact ⟨_, by simp [execOp, hv], .eptr _ _ _ _⟩
    · cases hv : ρ x <;> rw [hv] at hx <;> cases hx
      rename_i b o off vs hM hc
      exact ⟨_, by simp [execOp, hv], .cptr _ _ _ _ vs hM hc⟩
    · cases hv : ρ x <;> rw [hv] at hx <;> cases hx
      rename_i a c i1 i2 i3 i4
      exact ⟨.func (.func _) a c, by simp [execOp, hv], .fn _ _ _ _ _ i1 i3 i2 i4⟩
  case binOp op t x y yt =>
    obtain ⟨c, h1, h2⟩ := binV_sound (w := w) x y (he x) (he y) h
    exact ⟨c, by simp only [execOp, Sem.run_bind] at h1 ⊢; simp [h1], h2⟩
  case unOp op t x =>
    obtain ⟨c, h1, h2⟩ := unV_sound (P := P) (w := w) (he x) h
    exact ⟨c, by simp [execOp, h1], h2⟩
  case convert s d x =>
    obtain ⟨c, h1, h2⟩ := convV_sound (w := w) (he x) h
    exact ⟨c, by simp [execOp, h1], h2⟩
  case makeFunc f xs ys =>
    cases h
    obtain ⟨a1, a2⟩ := ConcL.of_map he xs
    obtain ⟨b1, b2⟩ := ConcL.of_map he ys
    exact ⟨.func f (xs.map ρ) (ys.map ρ), by simp [execOp, Instr.makeFunc], .fn _ _ _ _ _ a1 b1 a2 b2⟩
  case slice t x lo hi mx =>
    obtain ⟨c, h1, h2⟩ := sliceV_sound (w := w) (he x) (ConcO.map he lo) (ConcO.map he hi) (ConcO.map he mx) h
    exact ⟨c, by simp [execOp, h1], h2⟩
  case fieldAddr s x f =>
    simp only [Option.bind_eq_some_iff] at h
    obtain ⟨⟨o, ft⟩, hf, h⟩ := h
    obtain ⟨c, h1, h2⟩ := fieldAddr_sound (w := w) (he x) hf h
    exact ⟨c, by simp [execOp, h1], h2⟩
  case field t x f =>
    obtain ⟨c, h1, h2⟩ := fieldV_sound (w := w) (he x) h
    exact ⟨c, by simp [execOp, h1], h2⟩
  case indexAddr t x i =>
    obtain ⟨c, h1, h2⟩ := indexAddrV_sound (w := w) (he x) (he i) h
    exact ⟨c, by simp [execOp, h1], h2⟩
  case index t x i =>
    obtain ⟨c, h1, h2⟩ := indexV_sound (w := w) (he x) (he i) h
    exact ⟨c, by simp [execOp, h1], h2⟩
  case extract t i =>
    split at h
    · rename_i vs hev
      have hx := he t
      rw [hev] at hx
      cases hv : ρ t <;> rw [hv] at hx <;> cases hx
      rename_i cs hl hc
      have hlt : i < cs.size := by rw [← hl]; exact (List.getElem?_eq_some_iff.1 h).1
      have e1 : cs[i]? = some cs[i] := by simp [hlt]
      exact ⟨cs[i], by simp [execOp, hv, Instr.extract, e1], hc i _ _ e1 h⟩
    · cases h
  case build t parts =>
    obtain ⟨c, h1, h2⟩ := buildV_sound (P := P) (k := k) (w := w) (ps := parts.map fun (i, x) => (i, ρ x)) (by simp) (fun j p q a b => by
      simp only [Array.getElem?_map, Option.map_eq_some_iff] at a
      obtain ⟨⟨i, o⟩, ho, rfl⟩ := a
      simp only [List.getElem?_map, Array.getElem?_toList, ho, Option.map_some, Option.some.injEq] at b
      subst b
      exact ⟨rfl, he o⟩) h
    exact ⟨c, by simp only [execOp, Sem.run_bind, h1, Result.andThen_ok, Sem.run_pure], h2⟩
  case call c =>
    split at h
    · rename_i b hb
      obtain ⟨c', h1, h2⟩ := builtinV_sound (P := P) (w := w) (ty := ty) (cs := c.args.map fun | .const _ => true | _ => false) (ConcL.of_map he c.args) h
      obtain ⟨callee, args, argTypes⟩ := c
      simp only at hb
      subst hb
      exact ⟨c', by simp only [execOp, resolve, invoke, Sem.run_bind, Sem.run_pure, Result.andThen_ok]; exact h1, h2⟩
    · cases h

end Go.Av

namespace Go.Av
open Go.RowKit

def one : V → Bool
  | .agg _ | .tup _ | .junk => false
  | _ => true

theorem one_sound {k : K} {v : Value} {x : V} (h : Conc k v x) (ho : one x = true) : v.oneCell' = true := by
  cases h <;> first | rfl | simp [one] at ho

theorem ones_sound {k : K} {vs : Array Value} {xs : List V} (h : ConcL k vs xs) (ho : xs.all one = true) : ∀ v ∈ vs.toList, v.oneCell' = true := by
  intro v hv
  obtain ⟨j, hj⟩ := List.mem_iff_getElem?.1 hv
  have hlt : j < xs.length := by rw [h.1]; have := (List.getElem?_eq_some_iff.1 hj).1; simpa using this
  refine one_sound (h.2 j v xs[j] (by simpa using hj) (List.getElem?_eq_getElem hlt)) ?_
  rw [List.all_eq_true] at ho
  exact ho _ (List.getElem_mem hlt)

theorem Rel.setRow {k : K} {H : Hp} {w : World} (h : Rel k H w) {b : Nat} {cs ds : Array Value} {e : TypeId} {fr : Nat × Nat} (hb : w.heap[b]? = some (.cells cs e fr)) (hs : ds.size = cs.size)
    {x0 x : Blk} (hn : H b = some x0) (hx : BlkOk k (w.setRow b ds) b x) : Rel k (upd H b (some x)) (w.setRow b ds) ∧ Fr H w (upd H b (some x)) (w.setRow b ds) := by
  refine ⟨⟨fun b' o v hm => ?_, fun b' c hr => ?_, fun b' y hy => ?_⟩, ⟨rfl, rfl, rfl, by simp [World.setRow], fun b' hb' hn' => ?_, fun b' hb' hn' => ?_⟩⟩
  · have hne : b' ≠ b := fun e' => by subst e'; have := (h.imm _ _ _ hm).2; rw [hn] at this; cases this
    exact ⟨by rw [cell?_of_heap (setRow_other w b b' ds hne)]; exact (h.imm _ _ _ hm).1, by rw [ah _ _ _ hne]; exact (h.imm _ _ _ hm).2⟩
  · by_cases e' : b' = b
    · subst e'
      obtain ⟨cs', e1, fr', h1, h2⟩ := h.rows _ _ hr
      rw [hb] at h1; cases h1
      exact ⟨ds, e, fr, setRow_heap w b' cs ds e fr hb, hs.trans h2⟩
    · rw [setRow_other w b b' ds e']; exact h.rows b' c hr
  · by_cases e' : b' = b
    · subst e'; rw [upd_same] at hy; cases hy; exact hx
    · rw [ah _ _ _ e'] at hy
      exact (h.own b' y hy).mono (K.le.refl _) (setRow_other w b b' ds e')
  · have hne : b' ≠ b := fun e' => by subst e'; rw [hn] at hn'; cases hn'
    exact setRow_other w b b' ds hne
  · have hne : b' ≠ b := fun e' => by subst e'; rw [hn] at hn'; cases hn'
    rw [ah _ _ _ hne]; exact hn'

/-- What an operation has come to. -/
def OpPost (k : K) (H : Hp) (w : World) (Q : V → Hp → Prop) (v : Value) (w' : World) : Prop :=
  ∃ x H' k', Q x H' ∧ k.le k' ∧ Rel k' H' w' ∧ Conc k' v x ∧ Fr H w H' w'

/-! ### new blocks -/
theorem run_newVar {P : Program} {w : World} (t : TypeId) (v : Value) : (newVar t v).run P w = .ok ⟨w.heap.size, 0, none⟩ (w.alloc (.cells v.cells t)) := by
  simp [newVar, newRow]

theorem alloc_sound {P : Program} {k : K} {H : Hp} {w : World} (hr : Rel k H w) {t : TypeId} {z : List V} (hz : zeroT P t = some z) {Q : V → Hp → Prop} (h : ∀ b, H b = none → Q (.ptr b 0) (upd H b (some (.row z)))) :
    ∃ v w', (Instr.alloc t true (.tuple #[])).run P w = .ok v w' ∧ OpPost k H w Q v w' := by
  obtain ⟨i, v, hi, hv, rfl⟩ := zeroT_spec hz
  refine ⟨.pointer (some ⟨w.heap.size, 0, none⟩), w.alloc (.cells v.cells t), ?_, .ptr w.heap.size 0, _, k, h _ hr.fresh, K.le.refl _, ?_, .ptr _ _, Fr.alloc_own _ _⟩
  · simp [Instr.alloc, run_zero hi hv, run_newVar]
  · exact hr.alloc_own _ _ ⟨v.cells, t, bW w _, zero_conc v.cells⟩

theorem box_sound {P : Program} {k : K} {H : Hp} {w : World} (hr : Rel k H w) {t : TypeId} {u : Value} {x : V} {xs : List V} (hx : Conc k u x) (hc : aW x = some xs) {Q : V → Hp → Prop}
    (h : ∀ b, H b = none → Q (.ptr b 0) (upd H b (some (.row xs)))) : ∃ v w', (Instr.box t u).run P w = .ok v w' ∧ OpPost k H w Q v w' := by
  refine ⟨.pointer (some ⟨w.heap.size, 0, none⟩), w.alloc (.cells u.cells t), ?_, .ptr w.heap.size 0, _, k, h _ hr.fresh, K.le.refl _, ?_, .ptr _ _, Fr.alloc_own _ _⟩
  · simp [Instr.box, run_newVar]
  · exact hr.alloc_own _ _ ⟨u.cells, t, bW w _, cellsV_sound hx hc⟩

/-! ### elements laid out in a row -/
/-- The cells of a row hold the elements. -/
def Laid (k : K) (cs : Array Value) (sz : Nat) (es : List (List V)) : Prop :=
  es.length * sz ≤ cs.size ∧ (∀ e ∈ es, e.length = sz) ∧ ∀ (i : Nat) e (j : Nat) x, es[i]? = some e → e[j]? = some x → ∃ v, cs[i * sz + j]? = some v ∧ Conc k v x

def bv (sz : Nat) : List (List V) → List (Nat × V) → Option (List (List V))
  | es, [] => some es
  | es, (i, v) :: rest => match aW v with
    | some xs => if xs.length = sz ∧ i < es.length then bv sz (es.set i xs) rest else none
    | none => none

theorem flat_lt {i j n sz : Nat} (hi : i < n) (hj : j < sz) : i * sz + j < n * sz := by
  have : (i + 1) * sz ≤ n * sz := Nat.mul_le_mul_right _ hi
  rw [Nat.succ_mul] at this
  omega
theorem flat_inj {i i' j j' sz : Nat} (hj : j < sz) (hj' : j' < sz) (h : i * sz + j = i' * sz + j') : i = i' ∧ j = j' := by
  have h1 : (i * sz + j) / sz = i := by rw [Nat.add_comm, Nat.add_mul_div_right _ _ (by omega), Nat.div_eq_of_lt hj, Nat.zero_add]
  have h2 : (i' * sz + j') / sz = i' := by rw [Nat.add_comm, Nat.add_mul_div_right _ _ (by omega), Nat.div_eq_of_lt hj', Nat.zero_add]
  have h3 : i = i' := by rw [← h1, ← h2, h]
  subst h3
  exact ⟨rfl, by omega⟩

theorem buildEs_sound {k : K} {sz : Nat} : ∀ (ps : List (Nat × Value)) (qs : List (Nat × V)) (cs : Array Value) (es fs : List (List V)), Laid k cs sz es → ps.length = qs.length →
    (∀ (j : Nat) p q, ps[j]? = some p → qs[j]? = some q → p.1 = q.1 ∧ Conc k p.2 q.2) → bv sz es qs = some fs → ∃ ds, Instr.fill (fun i => some (i * sz, sz)) cs ps = some ds ∧ ds.size = cs.size ∧ Laid k ds sz fs
  | [], qs, cs, es, fs, hl, hlen, _, h => by
    obtain rfl : qs = [] := List.eq_nil_of_length_eq_zero (by simpa using hlen.symm)
    simp only [bv, Option.some.injEq] at h
    subst h
    exact ⟨cs, rfl, rfl, hl⟩
  | p :: ps, qs, cs, es, fs, hl, hlen, hpq, h => by
    cases qs with
    | nil => simp at hlen
    | cons q qs =>
      obtain ⟨i, v⟩ := p
      obtain ⟨i', x⟩ := q
      obtain ⟨e1, e2⟩ := hpq 0 (i, v) (i', x) (by simp) (by simp)
      simp only at e1 e2
      subst e1
      simp only [bv] at h
      split at h
      · rename_i xs hz
        split at h
        · rename_i hcond
          have hv := cellsV_sound e2 hz
          have hsz : v.cells.size = sz := by rw [← hv.1]; exact hcond.1
          obtain ⟨l1, l2, l3⟩ := hl
          have hfit : i * sz + sz ≤ cs.size := by
            have : (i + 1) * sz ≤ es.length * sz := Nat.mul_le_mul_right _ hcond.2
            rw [Nat.succ_mul] at this
            omega
          obtain ⟨f1, f2⟩ := foldl_set v.cells.toList cs (i * sz) 0
          have hzi : v.cells.zipIdx.toList = v.cells.toList.zipIdx 0 := by simp
          have ih := buildEs_sound ps qs (v.cells.zipIdx.foldl (fun cs (c, j) => cs.setIfInBounds (i * sz + j) c) cs) (es.set i xs) fs ?_ (by simpa using hlen)
            (fun j p q a b => hpq (j + 1) p q (by simpa using a) (by simpa using b)) h
          · obtain ⟨ds, hd, hds, hcd⟩ := ih
            refine ⟨ds, ?_, ?_, hcd⟩
            · simp only [Instr.fill]
              rw [if_neg (by simp; omega)]
              exact hd
            · rw [hds, ← Array.foldl_toList, hzi, f1]
          · rw [← Array.foldl_toList, hzi]
            refine ⟨by rw [f1]; simpa using l1, fun e he => ?_, fun a e j y ha hj => ?_⟩
            · rcases List.mem_or_eq_of_mem_set he with h' | rfl
              · exact l2 e h'
              · exact hcond.1
            · rw [List.getElem?_set] at ha
              by_cases c : i = a
              · subst c
                rw [if_pos rfl, if_pos hcond.2] at ha
                cases ha
                have hj' : j < xs.length := (List.getElem?_eq_some_iff.1 hj).1
                have hj2 : j < v.cells.size := by rw [← hv.1]; exact hj'
                have e3 : v.cells[j]? = some v.cells[j] := by simp [hj2]
                refine ⟨v.cells[j], ?_, hv.2 j _ y e3 hj⟩
                rw [f2, if_pos (by simp; omega)]
                simp only [Nat.add_zero, Nat.add_sub_cancel_left, Array.getElem?_toList]
                exact e3
              · rw [if_neg c] at ha
                obtain ⟨u, hu, hcu⟩ := l3 a e j y ha hj
                refine ⟨u, ?_, hcu⟩
                have hjs : j < sz := by rw [← l2 e (List.mem_of_getElem? ha)]; exact (List.getElem?_eq_some_iff.1 hj).1
                rw [f2, if_neg ?_]
                · exact hu
                · simp only [Nat.add_zero, Array.length_toList]
                  rintro ⟨g1, g2, _⟩
                  have : a * sz + j = i * sz + (a * sz + j - i * sz) := by omega
                  have := (flat_inj hjs (by omega) this).1
                  exact c this.symm
        · cases h
      · cases h

/-- The row of zeros that 'buildSlice' and 'make' begin with. -/
theorem zeros_laid {k : K} {z : Array Value} {n sz : Nat} (hz : z.size = sz) : Laid k ((Array.range (n * sz)).map (z[· % z.size]!)) sz (List.replicate n (z.toList.map bF)) := by
  refine ⟨by simp, fun e he => ?_, fun i e j x hi hj => ?_⟩
  · rw [List.eq_of_mem_replicate he]; simp [hz]
  · have hi' : i < n := by have := (List.getElem?_eq_some_iff.1 hi).1; simpa using this
    rw [List.getElem?_replicate, if_pos hi'] at hi
    cases hi
    have hj' : j < sz := by have := (List.getElem?_eq_some_iff.1 hj).1; simpa [hz] using this
    have hmod : (i * sz + j) % sz = j := by rw [Nat.add_comm, Nat.add_mul_mod_self_right, Nat.mod_eq_of_lt hj']
    refine ⟨z[j]!, ?_, ?_⟩
    · have := flat_lt hi' hj'
      simp [this, hz, hmod]
    · have e1 : z[j]! = z[j]'(by omega) := by simp [hz, hj']
      rw [e1]
      have e2 : (z.toList.map bF)[j]? = some (bF (z[j]'(by omega))) := by simp [hz, hj']
      rw [e2] at hj
      cases hj
      exact ofVal_conc _ _

theorem run_buildSlice {P : Program} {w : World} {t e : TypeId} {i : TypeInfo} {z : Value} {len : Nat} {ps : Array (Nat × Value)} {ds : Array Value} (ht : P.underlying t = some (.slice e)) (hi : P.info? e = some i) (hz : i.zero = some z)
    (h24 : len * i.size ≤ 16777216) (hd : Instr.fill (fun j => some (j * i.size, i.size)) ((Array.range (len * i.size)).map (z.cells[· % z.cells.size]!)) ps.toList = some ds) :
    (Instr.buildSlice t len ps).run P w = .ok (.slice (some ⟨w.heap.size, 0, none⟩) len len) (w.alloc (.cells ds e)) := by
  have h24' : ¬ (16777216 < len * i.size) := by omega
  by_cases h0 : len * i.size = 0
  · have hempty : (Array.range (len * i.size)).map (fun x : Nat => (#[] : Array Value)[x % (#[] : Array Value).size]!) = (Array.range (len * i.size)).map (z.cells[· % z.cells.size]!) := by
      rw [h0]; simp
    simp only [Instr.buildSlice, Sem.run_bind, run_underlying ht, Result.andThen_ok, run_sizeOf' hi]
    rw [if_neg (by omega), if_pos h0]
    simp only [Sem.run_pure, Result.andThen_ok, Sem.run_bind]
    rw [hempty, hd]
    simp [newRow]
  · simp only [Instr.buildSlice, Sem.run_bind, run_underlying ht, Result.andThen_ok, run_sizeOf' hi]
    rw [if_neg (by omega), if_neg h0]
    simp only [Sem.run_pure, Result.andThen_ok, Sem.run_bind, run_zero hi hz]
    rw [hd]
    simp [newRow]

/-- A new row by value. -/
theorem Conc.of_laid {k : K} {b len cap sz : Nat} {cs : Array Value} {es : List (List V)} {full : Bool} (h : Laid k cs sz es) (hl : es.length = len) (hc : len ≤ cap) (hf : full = true → cap = len)
    (hM : ∀ j v, cs[j]? = some v → k.M b j = some v) : Conc k (.slice (some ⟨b, 0, none⟩) len cap) (.sl sz es full) := by
  subst hl
  refine .sl b 0 cap sz es full (fun i j => cs.getD (i * sz + j) undef) h.2.1 hc hf (fun i j hi hj => ?_) (fun i e j x hi hj => ?_)
  · have hlt : i * sz + j < cs.size := Nat.lt_of_lt_of_le (flat_lt hi hj) h.1
    rw [Nat.zero_add]
    exact hM _ _ (by simp [hlt])
  · obtain ⟨v, hv, hcv⟩ := h.2.2 i e j x hi hj
    have hlt : i * sz + j < cs.size := (Array.getElem?_eq_some_iff.1 hv).1
    have : cs[i * sz + j]? = some (cs.getD (i * sz + j) undef) := by simp [hlt]
    rw [this] at hv
    cases hv
    exact hcv

theorem Laid.mono {k k' : K} (hk : k.le k') {cs : Array Value} {sz : Nat} {es : List (List V)} (h : Laid k cs sz es) : Laid k' cs sz es :=
  ⟨h.1, h.2.1, fun i e j x a b => let ⟨v, hv, hc⟩ := h.2.2 i e j x a b; ⟨v, hv, hc.mono hk⟩⟩

def zeroEs (P : Program) (t : TypeId) (len : Nat) : Option (Nat × List (List V)) :=
  match P.underlying t with
  | some (.slice e) => match P.info? e, zeroT P e with
    | some i, some z => if z.length = i.size then some (i.size, List.replicate len z) else none
    | _, _ => none
  | _ => none

theorem zeroEs_spec {P : Program} {t : TypeId} {len sz : Nat} {es : List (List V)} (h : zeroEs P t len = some (sz, es)) :
    ∃ e i v, P.underlying t = some (.slice e) ∧ P.info? e = some i ∧ i.zero = some v ∧ i.size = sz ∧ v.cells.size = sz ∧ es = List.replicate len (v.cells.toList.map bF) := by
  unfold zeroEs at h
  split at h
  · rename_i e hu
    split at h
    · rename_i i z hi hz
      split at h
      · rename_i hl
        cases h
        obtain ⟨i', v, hi', hv, rfl⟩ := zeroT_spec hz
        rw [hi] at hi'; cases hi'
        exact ⟨e, i, v, hu, hi, hv, rfl, by simpa using hl, rfl⟩
      · cases h
    · cases h
  · cases h

theorem alloc_val {k : K} {H : Hp} {w : World} (hr : Rel k H w) (cs : Array Value) (e : TypeId) (fr : Nat × Nat) :
    k.le (k.putM w.heap.size cs) ∧ Rel (k.putM w.heap.size cs) H (w.alloc (.cells cs e fr)) ∧ ∀ j v, cs[j]? = some v → (k.putM w.heap.size cs).M w.heap.size j = some v := by
  obtain ⟨h1, h2⟩ := (hr.alloc_plain (.cells cs e fr)).putM (bW w (.cells cs e fr)) hr.fresh
  exact ⟨h1, h2, fun j v hv => by simp [K.putM, hv]⟩

/-- 'buildSlice', by value. -/
theorem buildSlice_val {P : Program} {k : K} {H : Hp} {w : World} (hr : Rel k H w) {t : TypeId} {len : Nat} {ps : Array (Nat × Value)} {qs : List (Nat × V)} (hl : ps.size = qs.length)
    (hpq : ∀ (j : Nat) p q, ps[j]? = some p → qs[j]? = some q → p.1 = q.1 ∧ Conc k p.2 q.2) {sz : Nat} {zs es : List (List V)} (hz : zeroEs P t len = some (sz, zs)) (h24 : len * sz ≤ 16777216) (hb : bv sz zs qs = some es)
    {Q : V → Hp → Prop} (h : Q (.sl sz es true) H) : ∃ v w', (Instr.buildSlice t len ps).run P w = .ok v w' ∧ OpPost k H w Q v w' := by
  obtain ⟨e, i, v, hu, hi, hv, rfl, hvs, rfl⟩ := zeroEs_spec hz
  obtain ⟨ds, hd, hds, hL⟩ := buildEs_sound (k := k) ps.toList qs _ _ es (zeros_laid (k := k) (n := len) hvs) (by simpa using hl) (fun j p q a b => hpq j p q (by simpa using a) b) hb
  obtain ⟨g1, g2, g3⟩ := alloc_val hr ds e (0, 0)
  have hlen : ∀ (qs : List (Nat × V)) (zs es : List (List V)), bv i.size zs qs = some es → es.length = zs.length := by
    intro qs
    induction qs with
    | nil => intro zs es h; simp only [bv, Option.some.injEq] at h; rw [h]
    | cons q qs ih =>
      intro zs es h
      simp only [bv] at h
      split at h
      · split at h
        · have := ih _ _ h; simpa using this
        · cases h
      · cases h
  have hel : es.length = len := by rw [hlen _ _ _ hb]; simp
  exact ⟨_, _, run_buildSlice hu hi hv h24 hd, .sl i.size es true, H, _, h, g1, g2, Conc.of_laid (hL.mono g1) hel (Nat.le_refl _) (fun _ => rfl) g3, Fr.alloc_plain _ _ _⟩

/-- A new row that is owned, and its size written down. -/
theorem alloc_arr {k : K} {H : Hp} {w : World} (hr : Rel k H w) {cs : Array Value} {e : TypeId} {sz : Nat} {es : List (List V)} (hL : Laid k cs sz es) :
    k.le (k.putR w.heap.size cs.size) ∧ Rel (k.putR w.heap.size cs.size) (upd H w.heap.size (some (.arr sz es))) (w.alloc (.cells cs e)) ∧ (k.putR w.heap.size cs.size).R w.heap.size = some cs.size := by
  have h1 := hr.alloc_own (.cells cs e) (.arr sz es) ⟨cs, e, bW w _, hL.1, hL.2.1, hL.2.2⟩
  obtain ⟨h2, h3⟩ := h1.putR (bW w (.cells cs e))
  exact ⟨h2, h3, by simp [K.putR]⟩

/-- 'buildSlice', owned. -/
theorem buildSlice_own {P : Program} {k : K} {H : Hp} {w : World} (hr : Rel k H w) {t : TypeId} {len : Nat} {ps : Array (Nat × Value)} {qs : List (Nat × V)} (hl : ps.size = qs.length)
    (hpq : ∀ (j : Nat) p q, ps[j]? = some p → qs[j]? = some q → p.1 = q.1 ∧ Conc k p.2 q.2) {sz : Nat} {zs es : List (List V)} (hz : zeroEs P t len = some (sz, zs)) (h24 : len * sz ≤ 16777216) (hb : bv sz zs qs = some es)
    {Q : V → Hp → Prop} (h : ∀ b, H b = none → Q (.osl b 0 len sz true) (upd H b (some (.arr sz es)))) : ∃ v w', (Instr.buildSlice t len ps).run P w = .ok v w' ∧ OpPost k H w Q v w' := by
  obtain ⟨e, i, v, hu, hi, hv, rfl, hvs, rfl⟩ := zeroEs_spec hz
  obtain ⟨ds, hd, hds, hL⟩ := buildEs_sound (k := k) ps.toList qs _ _ es (zeros_laid (k := k) (n := len) hvs) (by simpa using hl) (fun j p q a b => hpq j p q (by simpa using a) b) hb
  obtain ⟨g1, g2, g3⟩ := alloc_arr (e := e) hr hL
  refine ⟨_, _, run_buildSlice hu hi hv h24 hd, _, _, _, h _ hr.fresh, g1, g2, ?_, Fr.alloc_own _ _⟩
  have := Conc.osl (k := k.putR w.heap.size ds.size) w.heap.size 0 len i.size len ds.size true g3 (Nat.le_refl _) (by rw [hds]; simp) (fun _ => rfl)
  simpa using this

def makeLens (l c : V) : Option (Nat × Nat) :=
  match l, c with
  | .int _ i, .int _ j => if 0 ≤ i ∧ i ≤ j ∧ j ≤ 281474976710656 then some (i.toNat, j.toNat) else none
  | _, _ => none

theorem run_makeSlice {P : Program} {w : World} {t e : TypeId} {ti : TypeInfo} {z : Value} {ki kj : IntKind} {i j : Int} (ht : P.underlying t = some (.slice e)) (hi : P.info? e = some ti) (hz : ti.zero = some z) (h0 : 0 ≤ i) (h1 : i ≤ j)
    (h2 : j ≤ 281474976710656) (hb : (ti.bytes : Int) * j ≤ 281474976710656) :
    (Instr.makeSlice t (.int ki i) (.int kj j)).run P w = .ok (.slice (some ⟨w.heap.size, 0, none⟩) i.toNat j.toNat) (w.alloc (.cells ((Array.range (j.toNat * ti.size)).map (z.cells[· % z.cells.size]!)) e)) := by
  have w1 : IntKind.i64.wrap i = i := IntWalk.i64_in i (by omega)
  have w2 : IntKind.i64.wrap j = j := IntWalk.i64_in j (by omega)
  have n1 : ¬ j < 0 := by omega
  have n2 : ¬ i < 0 := by omega
  have n3 : ¬ j < i := by omega
  have n4 : ¬ (281474976710656 < (ti.bytes : Int) * j) := by omega
  by_cases hn : j.toNat * ti.size = 0
  · have hempty : (Array.range (j.toNat * ti.size)).map (fun x : Nat => (#[] : Array Value)[x % (#[] : Array Value).size]!) = (Array.range (j.toNat * ti.size)).map (z.cells[· % z.cells.size]!) := by
      rw [hn]; simp
    simp only [Instr.makeSlice, Sem.run_bind, run_underlying ht, Result.andThen_ok, asInt, asIntOf, Sem.run_pure, typeInfo, run_program, hi, w1, w2]
    rw [if_neg (by simp [n1, n2, n3, n4])]
    simp only [Sem.run_bind, run_askRoom, Result.andThen_ok, run_sizeOf' hi, if_pos hn, Sem.run_pure, hempty]
    simp [newRow]
  · simp only [Instr.makeSlice, Sem.run_bind, run_underlying ht, Result.andThen_ok, asInt, asIntOf, Sem.run_pure, typeInfo, run_program, hi, w1, w2]
    rw [if_neg (by simp [n1, n2, n3, n4])]
    simp only [Sem.run_bind, run_askRoom, Result.andThen_ok, run_sizeOf' hi, if_neg hn, Sem.run_pure, run_zero hi hz]
    simp [newRow]

end Go.Av

namespace Go.Av
open Go.RowKit

theorem makeLens_sound {k : K} {v u : Value} {x y : V} {l c : Nat} (hx : Conc k v x) (hy : Conc k u y) (h : makeLens x y = some (l, c)) :
    ∃ ki kj i j, v = .int ki i ∧ u = .int kj j ∧ 0 ≤ i ∧ i ≤ j ∧ j ≤ 281474976710656 ∧ i.toNat = l ∧ j.toNat = c := by
  unfold makeLens at h
  split at h
  · cases hx; cases hy
    split at h
    · rename_i hc
      cases h
      exact ⟨_, _, _, _, rfl, rfl, hc.1, hc.2.1, hc.2.2, rfl, rfl⟩
    · cases h
  · cases h

/-- The bytes of a slice type's element. -/
def bT (P : Program) (t : TypeId) : Nat :=
  match P.underlying t with
  | some (.slice e) => ((P.info? e).map (·.bytes)).getD 0
  | _ => 0
theorem bytesT_spec {P : Program} {t e : TypeId} {i : TypeInfo} (hu : P.underlying t = some (.slice e)) (hi : P.info? e = some i) : bT P t = i.bytes := by simp [bT, hu, hi]

theorem makeSlice_own {P : Program} {k : K} {H : Hp} {w : World} (hr : Rel k H w) {t : TypeId} {v u : Value} {x y : V} (hx : Conc k v x) (hy : Conc k u y) {l c : Nat} (hlc : makeLens x y = some (l, c)) (hb : bT P t * c ≤ 281474976710656)
    {sz : Nat} {es : List (List V)} (hz : zeroEs P t c = some (sz, es)) {Q : V → Hp → Prop} (h : ∀ b, H b = none → Q (.osl b 0 l sz (decide (l = c))) (upd H b (some (.arr sz (es.take l))))) :
    ∃ r w', (Instr.makeSlice t v u).run P w = .ok r w' ∧ OpPost k H w Q r w' := by
  obtain ⟨e, ti, z, hu, hi, hv, rfl, hvs, rfl⟩ := zeroEs_spec hz
  obtain ⟨ki, kj, i, j, rfl, rfl, h0, h1, h2, rfl, rfl⟩ := makeLens_sound hx hy hlc
  rw [bytesT_spec hu hi] at hb
  have hL := zeros_laid (k := k) (z := z.cells) (n := j.toNat) hvs
  have hL' : Laid k ((Array.range (j.toNat * ti.size)).map (z.cells[· % z.cells.size]!)) ti.size ((List.replicate j.toNat (z.cells.toList.map bF)).take i.toNat) := by
    refine ⟨?_, fun e he => hL.2.1 e (List.mem_of_mem_take he), fun a e b x ha hb => ?_⟩
    · refine Nat.le_trans (Nat.mul_le_mul_right _ ?_) hL.1
      simp; omega
    · rw [List.getElem?_take] at ha
      split at ha
      · exact hL.2.2 a e b x ha hb
      · cases ha
  obtain ⟨g1, g2, g3⟩ := alloc_arr (e := e) hr hL'
  have hbj : (ti.bytes : Int) * j ≤ 281474976710656 := by
    have : ((ti.bytes * j.toNat : Nat) : Int) ≤ 281474976710656 := by omega
    rw [Int.natCast_mul, Int.toNat_of_nonneg (by omega)] at this
    exact this
  refine ⟨_, _, run_makeSlice hu hi hv h0 h1 h2 hbj, _, _, _, h _ hr.fresh, g1, g2, ?_, Fr.alloc_own _ _⟩
  have hsize : (0 + j.toNat) * ti.size ≤ ((Array.range (j.toNat * ti.size)).map (z.cells[· % z.cells.size]!)).size := by
    rw [Nat.zero_add, Array.size_map, Array.size_range]; exact Nat.le_refl _
  have := Conc.osl w.heap.size 0 i.toNat ti.size j.toNat _ (decide (i.toNat = j.toNat)) g3 (by omega) hsize (fun hf => (of_decide_eq_true hf).symm)
  rw [Nat.zero_mul] at this
  exact this

/-- 'makeSlice', by value. -/
theorem makeSlice_val {P : Program} {k : K} {H : Hp} {w : World} (hr : Rel k H w) {t : TypeId} {v u : Value} {x y : V} (hx : Conc k v x) (hy : Conc k u y) {l c : Nat} (hlc : makeLens x y = some (l, c)) (hb : bT P t * c ≤ 281474976710656)
    {sz : Nat} {es : List (List V)} (hz : zeroEs P t c = some (sz, es)) {Q : V → Hp → Prop} (h : Q (.sl sz (es.take l) (decide (l = c))) H) :
    ∃ r w', (Instr.makeSlice t v u).run P w = .ok r w' ∧ OpPost k H w Q r w' := by
  obtain ⟨e, ti, z, hu, hi, hv, rfl, hvs, rfl⟩ := zeroEs_spec hz
  obtain ⟨ki, kj, i, j, rfl, rfl, h0, h1, h2, rfl, rfl⟩ := makeLens_sound hx hy hlc
  rw [bytesT_spec hu hi] at hb
  have hL := zeros_laid (k := k) (z := z.cells) (n := j.toNat) hvs
  have hL' : Laid k ((Array.range (j.toNat * ti.size)).map (z.cells[· % z.cells.size]!)) ti.size ((List.replicate j.toNat (z.cells.toList.map bF)).take i.toNat) := by
    refine ⟨?_, fun e he => hL.2.1 e (List.mem_of_mem_take he), fun a e b x ha hb => ?_⟩
    · refine Nat.le_trans (Nat.mul_le_mul_right _ ?_) hL.1
      simp; omega
    · rw [List.getElem?_take] at ha
      split at ha
      · exact hL.2.2 a e b x ha hb
      · cases ha
  obtain ⟨g1, g2, g3⟩ := alloc_val hr ((Array.range (j.toNat * ti.size)).map (z.cells[· % z.cells.size]!)) e (0, 0)
  have hbj : (ti.bytes : Int) * j ≤ 281474976710656 := by
    have : ((ti.bytes * j.toNat : Nat) : Int) ≤ 281474976710656 := by omega
    rw [Int.natCast_mul, Int.toNat_of_nonneg (by omega)] at this
    exact this
  exact ⟨_, _, run_makeSlice hu hi hv h0 h1 h2 hbj, _, _, _, h, g1, g2, Conc.of_laid (hL'.mono g1) (by simp; omega) (by omega) (fun hf => (of_decide_eq_true hf).symm) g3, Fr.alloc_plain _ _ _⟩

/-! ### store -/
def storeV (P : Program) (H : Hp) (t : TypeId) (p x : V) : Option Hp :=
  match tyT P t, aW x with
  | some (_, n), some xs => if xs.length = n ∧ xs.all one = true then
      match p with
      | .ptr b off => match H b with
        | some (.row cells) => if off + xs.length ≤ cells.length then some (upd H b (some (.row (br cells off xs)))) else none
        | _ => none
      | .eptr b i off sz => match H b with
        | some (.arr sz' es) => if sz' = sz then (es[i]?).bind fun e => if off + xs.length ≤ e.length then some (upd H b (some (.arr sz' (es.set i (br e off xs))))) else none else none
        | _ => none
      | _ => none
    else none
  | _, _ => none

theorem run_storeAt {P : Program} {w : World} {t : TypeId} {c : Bool} {n b o : Nat} {v : Value} {cur : Array Value} {e : TypeId} (ht : tyT P t = some (c, n)) (hn : v.cells.size = n) (hb : w.heap[b]? = some (.cells cur e (0, 0)))
    (hfit : o + v.cells.size ≤ cur.size) (h1 : ∀ u ∈ v.cells.toList, u.oneCell' = true) :
    (Instr.storeAt t (.pointer (some ⟨b, o, none⟩)) v).run P w = .ok () (w.setRow b (cur.toList.take o ++ v.cells.toList ++ cur.toList.drop (o + v.cells.toList.length)).toArray) := by
  have hs := (co ht w).2
  have hst := run_storeCells_at P b o e v.cells.toList 0 cur w hb (by simpa using hfit) h1
  simp only [Nat.add_zero] at hst
  subst hn
  simp only [Instr.storeAt, Instr.sureAddr, storeVar, Sem.run_bind, Sem.run_pure, Result.andThen_ok, hs, ne_eq, not_true_eq_false, ↓reduceIte]
  exact hst

theorem seg_get (cur : Array Value) (vs : List Value) (o j : Nat) (h : o + vs.length ≤ cur.size) :
    ((cur.toList.take o ++ vs ++ cur.toList.drop (o + vs.length)).toArray)[j]? = if o ≤ j ∧ j < o + vs.length then vs[j - o]? else cur[j]? := by
  rw [List.getElem?_toArray, List.append_assoc]
  by_cases h1 : j < o
  · rw [List.getElem?_append_left (by simp; omega), List.getElem?_take_of_lt h1, if_neg (by omega), Array.getElem?_toList]
  · rw [List.getElem?_append_right (by simp; omega)]
    have ht : (cur.toList.take o).length = o := by simp; omega
    rw [ht]
    by_cases h2 : j < o + vs.length
    · rw [List.getElem?_append_left (by omega), if_pos (by omega)]
    · rw [List.getElem?_append_right (by omega), List.getElem?_drop, if_neg (by omega), Array.getElem?_toList]
      congr 1
      omega
theorem seg_size (cur : Array Value) (vs : List Value) (o : Nat) (h : o + vs.length ≤ cur.size) : ((cur.toList.take o ++ vs ++ cur.toList.drop (o + vs.length)).toArray).size = cur.size := by
  simp; omega

theorem store_sound {P : Program} {k : K} {H H' : Hp} {w : World} (hr : Rel k H w) {t : TypeId} {v u : Value} {p x : V} (hp : Conc k v p) (hx : Conc k u x) (h : storeV P H t p x = some H') :
    ∃ w', (Instr.storeAt t v u).run P w = .ok () w' ∧ Rel k H' w' ∧ Fr H w H' w' := by
  unfold storeV at h
  split at h
  · rename_i c n xs ht hxs
    split at h
    · rename_i hcond
      have hc := cellsV_sound hx hxs
      have hsz : u.cells.size = xs.length := hc.1.symm
      have h1 := ones_sound hc hcond.2
      split at h
      · rename_i b off
        split at h
        · rename_i cells hb
          split at h
          · rename_i hfit
            cases h
            cases hp
            obtain ⟨cs, e, g1, g2⟩ := hr.own _ _ hb
            have hcs : cells.length = cs.size := g2.1
            have hf : off + u.cells.toList.length ≤ cs.size := by simp; omega
            refine ⟨_, run_storeAt ht (by omega) g1 (by omega) h1, hr.setRow g1 (seg_size _ _ _ hf) hb ⟨_, e, setRow_heap w b cs _ e _ g1, ?_, fun j v' y a b => ?_⟩⟩
            · rw [seg_size _ _ _ hf, splice_len (by omega)]; exact hcs
            · rw [seg_get _ _ _ _ hf] at a
              rw [splice_get (by omega)] at b
              by_cases c1 : off ≤ j ∧ j < off + xs.length
              · rw [if_pos c1] at b
                rw [if_pos (by simp; omega), Array.getElem?_toList] at a
                exact hc.2 _ v' y a b
              · rw [if_neg c1] at b
                rw [if_neg (by simp; omega)] at a
                exact g2.2 j v' y a b
          · cases h
        · cases h
      · rename_i b i off sz
        split at h
        · rename_i sz' es hb
          split at h
          · rename_i hse
            subst hse
            simp only [Option.bind_eq_some_iff] at h
            obtain ⟨el, hel, h⟩ := h
            split at h
            · rename_i hfit
              cases h
              cases hp
              obtain ⟨cs, e, g1, g2, g3, g4⟩ := hr.own _ _ hb
              have hel' : el.length = sz' := g3 el (List.mem_of_getElem? hel)
              have hi : i < es.length := (List.getElem?_eq_some_iff.1 hel).1
              have hfl : i * sz' + sz' ≤ cs.size := by
                have : (i + 1) * sz' ≤ es.length * sz' := Nat.mul_le_mul_right _ hi
                rw [Nat.succ_mul] at this
                omega
              have hf : i * sz' + off + u.cells.toList.length ≤ cs.size := by simp; omega
              refine ⟨_, run_storeAt ht (by omega) g1 (by simpa using hf) h1, hr.setRow g1 (seg_size _ _ _ hf) hb ⟨_, e, setRow_heap w b cs _ e _ g1, ?_, fun a ha => ?_, fun i' e' j y a b => ?_⟩⟩
              · rw [seg_size _ _ _ hf]; simpa using g2
              · rcases List.mem_or_eq_of_mem_set ha with h' | rfl
                · exact g3 a h'
                · rw [splice_len (by omega)]; exact hel'
              · rw [seg_get _ _ _ _ hf]
                rw [List.getElem?_set] at a
                by_cases c0 : i = i'
                · subst c0
                  rw [if_pos rfl, if_pos hi] at a
                  cases a
                  rw [splice_get (by omega)] at b
                  by_cases c1 : off ≤ j ∧ j < off + xs.length
                  · rw [if_pos c1] at b
                    rw [if_pos (by simp; omega), Array.getElem?_toList]
                    have hlt : j - off < u.cells.size := by omega
                    have e3 : u.cells[j - off]? = some u.cells[j - off] := by simp [hlt]
                    refine ⟨u.cells[j - off], ?_, hc.2 _ _ y e3 b⟩
                    rw [← e3]
                    congr 1
                    omega
                  · rw [if_neg c1] at b
                    rw [if_neg (by simp; omega)]
                    exact g4 i el j y hel b
                · rw [if_neg c0] at a
                  have hj : j < sz' := by rw [← g3 e' (List.mem_of_getElem? a)]; exact (List.getElem?_eq_some_iff.1 b).1
                  rw [if_neg ?_]
                  · exact g4 i' e' j y a b
                  · simp only [Array.length_toList]
                    rintro ⟨q1, q2⟩
                    have : i' * sz' + j = i * sz' + (i' * sz' + j - i * sz') := by omega
                    exact c0 (flat_inj hj (by omega) this).1.symm
            · cases h
          · cases h
        · cases h
      · cases h
    · cases h
  · cases h

/-! ### the elements of a slice, out of memory -/
theorem view_cells {k : K} {H : Hp} {w : World} (hr : Rel k H w) {v : Value} {x : V} (hc : Conc k v x) {sz : Nat} (hs : 0 < sz) {es : List (List V)} (h : ao H sz x = some es) :
    ∃ a c, v = .slice a es.length c ∧ es.length ≤ c ∧ (∀ e ∈ es, e.length = sz) ∧ ∃ news : List Value, news.length = es.length * sz ∧ (∀ (j : Nat) u, news[j]? = some u → ∃ ad, a = some ad ∧ w.cell? (ad.add j) = some u) ∧
      (a = none → es = []) ∧ ∀ (i : Nat) e (j : Nat) y, es[i]? = some e → e[j]? = some y → ∃ u, news[i * sz + j]? = some u ∧ Conc k u y := by
  cases hc <;> try (simp [ao] at h; done)
  case nils =>
    simp only [ao, Option.some.injEq] at h
    subst h
    exact ⟨none, 0, rfl, Nat.le_refl _, by simp, [], by simp, by simp, fun _ => rfl, by simp⟩
  case slnil sz' full =>
    simp only [ao] at h
    split at h
    · cases h
      exact ⟨none, 0, rfl, Nat.le_refl _, by simp, [], by simp, by simp, fun _ => rfl, by simp⟩
    · cases h
  case slz ad0 sz' full =>
    simp only [ao] at h
    split at h
    · cases h
      exact ⟨some ad0, 0, rfl, Nat.le_refl _, by simp, [], by simp, by simp, fun _ => rfl, by simp⟩
    · cases h
  case sl b off cap sz' es' full vs hszs hcap hf hM hcv =>
    simp only [ao] at h
    split at h
    · rename_i hse
      cases h
      subst hse
      refine ⟨some ⟨b, off, none⟩, cap, rfl, hcap, hszs, (List.range (es.length * sz')).map fun m => vs (m / sz') (m % sz'), by simp, fun j u hj => ⟨_, rfl, ?_⟩, (by simp), fun i e j y hi hj => ?_⟩
      · simp only [List.getElem?_map, Option.map_eq_some_iff] at hj
        obtain ⟨m, hm, rfl⟩ := hj
        obtain ⟨hlt, rfl⟩ := List.getElem?_eq_some_iff.1 hm
        simp only [List.length_range] at hlt
        simp only [List.getElem_range, bO]
        have e1 : j / sz' < es.length := Nat.div_lt_of_lt_mul (by rw [Nat.mul_comm]; exact hlt)
        have := (hr.imm _ _ _ (hM (j / sz') (j % sz') e1 (Nat.mod_lt _ hs))).1
        rw [← this]
        congr 2
        have := Nat.div_add_mod j sz'
        rw [Nat.mul_comm] at this
        omega
      · have hi' : i < es.length := (List.getElem?_eq_some_iff.1 hi).1
        have hj' : j < sz' := by rw [← hszs e (List.mem_of_getElem? hi)]; exact (List.getElem?_eq_some_iff.1 hj).1
        refine ⟨vs i j, ?_, hcv i e j y hi hj⟩
        have hlt := flat_lt hi' hj'
        have h1 : (i * sz' + j) / sz' = i := by rw [Nat.add_comm, Nat.add_mul_div_right _ _ hs, Nat.div_eq_of_lt hj', Nat.zero_add]
        have h2 : (i * sz' + j) % sz' = j := by rw [Nat.add_comm, Nat.add_mul_mod_self_right, Nat.mod_eq_of_lt hj']
        simp [hlt, h1, h2]
    · cases h
  case osl b i0 n sz' cap c full hR hcap hcc hf =>
    simp only [ao] at h
    split at h
    · rename_i sz'' es' hb
      split at h
      · rename_i hcond
        obtain ⟨rfl, rfl, hle⟩ := hcond
        cases h
        obtain ⟨cs, e, g1, g2, g3, g4⟩ := hr.own _ _ hb
        have hlen : ((es'.drop i0).take n).length = n := by simp; omega
        have hfit : i0 * sz'' + n * sz'' ≤ cs.size := by
          rw [← Nat.add_mul]
          exact Nat.le_trans (Nat.mul_le_mul_right _ hle) g2
        refine ⟨some ⟨b, i0 * sz'', none⟩, cap, by rw [hlen], by rw [hlen]; exact hcap, fun e he => g3 e (List.mem_of_mem_drop (List.mem_of_mem_take he)), (cs.toList.drop (i0 * sz'')).take (n * sz''), by rw [hlen]; simp; omega, fun j u hj => ⟨_, rfl, ?_⟩, (by simp), fun i e j y hi hj => ?_⟩
        · rw [List.getElem?_take] at hj
          split at hj
          · rw [List.getElem?_drop, Array.getElem?_toList] at hj
            rw [bO, cell?_cells g1]; exact hj
          · cases hj
        · rw [List.getElem?_take] at hi
          split at hi
          · rename_i hin
            rw [List.getElem?_drop] at hi
            obtain ⟨u, hu, hcu⟩ := g4 _ e j y hi hj
            have hj' : j < sz'' := by rw [← g3 e (List.mem_of_getElem? hi)]; exact (List.getElem?_eq_some_iff.1 hj).1
            refine ⟨u, ?_, hcu⟩
            rw [List.getElem?_take_of_lt (flat_lt hin hj'), List.getElem?_drop, Array.getElem?_toList, ← hu, Nat.add_mul]
            congr 1
            omega
          · cases hi
      · cases h
    · cases h
  case rsl b off n sz' cap hcap =>
    simp only [ao] at h
    split at h
    · rename_i cells hb
      split at h
      · rename_i hcond
        obtain ⟨rfl, hle⟩ := hcond
        cases h
        obtain ⟨cs, e, g1, g2⟩ := hr.own _ _ hb
        have hcs : cells.length = cs.size := g2.1
        refine ⟨some ⟨b, off, none⟩, cap, by rw [bM], by rw [bM]; exact hcap, chunks_mem_len (by simp; omega), (cs.toList.drop off).take (n * sz'), by rw [bM]; simp; omega, fun j u hj => ⟨_, rfl, ?_⟩, by simp, fun i e j y hi hj => ?_⟩
        · rw [List.getElem?_take] at hj
          split at hj
          · rw [List.getElem?_drop, Array.getElem?_toList] at hj
            rw [bO, cell?_cells g1]; exact hj
          · cases hj
        · have hi' : i < n := by have := (List.getElem?_eq_some_iff.1 hi).1; rwa [bM] at this
          rw [chunks_get _ _ _ _ hi'] at hi
          cases hi
          have hj' : j < sz' := by
            have := (List.getElem?_eq_some_iff.1 hj).1
            simp only [List.length_take] at this
            omega
          rw [List.getElem?_take_of_lt hj', List.getElem?_drop, List.getElem?_drop] at hj
          have hlt : off + (i * sz' + j) < cs.size := by have := flat_lt hi' hj'; omega
          have e1 : cs[off + (i * sz' + j)]? = some cs[off + (i * sz' + j)] := by simp [hlt]
          refine ⟨_, ?_, g2.2 _ _ y e1 hj⟩
          rw [List.getElem?_take_of_lt (flat_lt hi' hj'), List.getElem?_drop, Array.getElem?_toList]
          exact e1
      · cases h
    · cases h

def bo (es : List (List V)) : Bool := es.all (·.all one)

theorem news_one {k : K} {sz : Nat} (hs : 0 < sz) {es : List (List V)} {news : List Value} (hl : news.length = es.length * sz) (hsz : ∀ e ∈ es, e.length = sz)
    (hc : ∀ (i : Nat) e (j : Nat) y, es[i]? = some e → e[j]? = some y → ∃ u, news[i * sz + j]? = some u ∧ Conc k u y) (ho : bo es = true) : ∀ u ∈ news, u.oneCell' = true := by
  intro u hu
  obtain ⟨m, hm⟩ := List.mem_iff_getElem?.1 hu
  have hlt : m < es.length * sz := by rw [← hl]; exact (List.getElem?_eq_some_iff.1 hm).1
  have e1 : m / sz < es.length := Nat.div_lt_of_lt_mul (by rw [Nat.mul_comm]; exact hlt)
  have hel := List.getElem?_eq_getElem e1
  have hle := hsz _ (List.getElem_mem e1)
  have e2 : m % sz < (es[m / sz]).length := by rw [hle]; exact Nat.mod_lt _ hs
  obtain ⟨u', hu', hcu⟩ := hc _ _ _ _ hel (List.getElem?_eq_getElem e2)
  have : m / sz * sz + m % sz = m := by have := Nat.div_add_mod m sz; rw [Nat.mul_comm] at this; exact this
  rw [this, hm] at hu'
  cases hu'
  refine one_sound hcu ?_
  simp only [bo, List.all_eq_true] at ho
  exact ho _ (List.getElem_mem e1) _ (List.getElem_mem e2)

end Go.Av

set_option linter.unusedSimpArgs false
set_option linter.unusedVariables false
namespace Go.Av
open Go.RowKit

/-- Cells that hold elements, one behind the other. -/
def Lay (k : K) (news : List Value) (sz : Nat) (es : List (List V)) : Prop :=
  news.length = es.length * sz ∧ (∀ e ∈ es, e.length = sz) ∧ ∀ (i : Nat) e (j : Nat) y, es[i]? = some e → e[j]? = some y → ∃ u, news[i * sz + j]? = some u ∧ Conc k u y

theorem Lay.append {k : K} {a b : List Value} {sz : Nat} {es fs : List (List V)} (h : Lay k a sz es) (g : Lay k b sz fs) : Lay k (a ++ b) sz (es ++ fs) := by
  obtain ⟨h1, h2, h3⟩ := h
  obtain ⟨g1, g2, g3⟩ := g
  refine ⟨by simp [h1, g1, Nat.add_mul], fun e he => ?_, fun i e j y hi hj => ?_⟩
  · rcases List.mem_append.1 he with h' | h'
    · exact h2 e h'
    · exact g2 e h'
  · by_cases c : i < es.length
    · rw [List.getElem?_append_left c] at hi
      obtain ⟨u, hu, hc⟩ := h3 i e j y hi hj
      refine ⟨u, ?_, hc⟩
      rw [List.getElem?_append_left (List.getElem?_eq_some_iff.1 hu).1]
      exact hu
    · rw [List.getElem?_append_right (by omega)] at hi
      obtain ⟨u, hu, hc⟩ := g3 _ e j y hi hj
      refine ⟨u, ?_, hc⟩
      have e1 : i * sz + j = a.length + ((i - es.length) * sz + j) := by
        have : i * sz = es.length * sz + (i - es.length) * sz := by rw [← Nat.add_mul]; congr 1; omega
        rw [h1]; omega
      rw [e1, List.getElem?_append_right (by omega), Nat.add_sub_cancel_left]
      exact hu

theorem Lay.laid {k : K} {a : List Value} {sz : Nat} {es : List (List V)} (h : Lay k a sz es) (zs : Array Value) : Laid k (a.toArray ++ zs) sz es := by
  obtain ⟨h1, h2, h3⟩ := h
  refine ⟨by simp [h1], h2, fun i e j y hi hj => ?_⟩
  obtain ⟨u, hu, hc⟩ := h3 i e j y hi hj
  have hlt := (List.getElem?_eq_some_iff.1 hu).1
  refine ⟨u, ?_, hc⟩
  rw [Array.getElem?_append_left (by simpa using hlt), List.getElem?_toArray]
  exact hu

theorem Rel.drew {k : K} {H : Hp} {w : World} (h : Rel k H w) : Rel k H w.drew := h.heap rfl
theorem Fr.drew (H : Hp) (w : World) : Fr H w H w.drew := ⟨rfl, rfl, rfl, Nat.le_refl _, fun _ _ _ => rfl, fun _ _ h => h⟩

structure Dst (P : Program) (t : TypeId) (sz : Nat) where
  e : TypeId
  i : TypeInfo
  z : Value
  ht : P.underlying t = some (.slice e)
  hi : P.info? e = some i
  hz : i.zero = some z
  hsz : i.size = sz
  hzs : z.cells.size = sz
  hs : 0 < sz

/-- It grows: a new row. -/
theorem append_grow {P : Program} {k : K} {H : Hp} {w : World} (hr : Rel k H w) {t tx ty : TypeId} {sz : Nat} (D : Dst P t sz) {base : Option Addr} {n c : Nat} {olds : List Value} {es : List (List V)} (hlo : Lay k olds sz es) (hn : es.length = n)
    (hold : ∀ (j : Nat) u, olds[j]? = some u → ∃ ad, base = some ad ∧ w.cell? (ad.add j) = some u) (hbn : base = none → es = [])
    {x : Value} {m : Nat} {news : List Value} (hs : Src P sz tx x m news w) {fs : List (List V)} (hln : Lay k news sz fs) (hm : fs.length = m)
    (hg : c < n + m) (hb : (n + m) * bT P t ≤ 140737488355328) (h63 : n + m ≤ 140737488355328) {Q : V → Hp → Prop} (h : ∀ b, H b = none → Q (.osl b 0 (n + m) sz false) (upd H b (some (.arr sz (es ++ fs))))) :
    ∃ r w', (Builtin.append_ #[t, tx] ty #[.slice base n c, x]).run P w = .ok r w' ∧ OpPost k H w Q r w' := by
  obtain ⟨e, i, z, ht, hi, hz, rfl, hzs, hsp⟩ := D
  rw [bytesT_spec ht hi] at hb
  have hf : (Builtin.firstCells i.size n (.slice base n c)).run P w.drew = .ok olds.toArray w.drew := by
    cases base with
    | none =>
      have := hbn rfl
      subst this
      simp only [List.length_nil] at hn
      subst hn
      have : olds = [] := List.eq_nil_of_length_eq_zero (by rw [hlo.1]; simp)
      subst this
      exact run_firstCells_none w.drew i.size 0 0 c
    | some ad =>
      refine run_firstCells_some w.drew i.size n ad n c olds (by rw [hlo.1, hn]) (fun j u hj => ?_)
      obtain ⟨ad', e1, h1⟩ := hold j u hj
      cases e1
      simpa using h1
  have hr1 := run_append_grow_src (P := P) w t tx ty e i z ht hi hz base n c olds hf x m news hs hg (by omega) (growslice_fits hg hb)
  have hL : Laid k ((olds ++ news).toArray ++ Builtin.zeroCells z.cells (grownCap w (n + m) c e - (n + m))) i.size (es ++ fs) := (hlo.append hln).laid _
  obtain ⟨g1, g2, g3⟩ := alloc_arr (e := e) hr.drew hL
  have hge := grownCap_ge w (n + m) c e
  refine ⟨_, _, hr1, _, _, _, h w.drew.heap.size hr.drew.fresh, g1, g2, ?_, (Fr.drew H w).trans (Fr.alloc_own _ _)⟩
  have hsize : (0 + grownCap w (n + m) c e) * i.size ≤ ((olds ++ news).toArray ++ Builtin.zeroCells z.cells (grownCap w (n + m) c e - (n + m))).size := by
    rw [Nat.zero_add, Array.size_append, List.size_toArray, List.length_append, hlo.1, hln.1, hn, hm, size_zeroCells, hzs, ← Nat.add_mul, ← Nat.add_mul]
    exact Nat.mul_le_mul_right _ (by omega)
  have := Conc.osl (k := _) w.drew.heap.size 0 (n + m) i.size _ _ false g3 hge hsize (fun hf => by cases hf)
  rw [Nat.zero_mul] at this
  exact this

/-- There is room: an owned row, written behind its end. -/
theorem append_room {P : Program} {k : K} {H : Hp} {w : World} (hr : Rel k H w) {t tx ty : TypeId} {sz : Nat} (D : Dst P t sz) {b n c rs : Nat} {es : List (List V)} (hb : H b = some (.arr sz es)) (hn : n ≤ es.length) (hR : k.R b = some rs) (hc : (0 + c) * sz ≤ rs)
    {x : Value} {m : Nat} {news : List Value} (hs : Src P sz tx x m news w) {fs : List (List V)} (hln : Lay k news sz fs) (hm : fs.length = m)
    (hg : n + m ≤ c) {Q : V → Hp → Prop} (h : Q (.osl b 0 (n + m) sz false) (upd H b (some (.arr sz (es.take n ++ fs))))) :
    ∃ r w', (Builtin.append_ #[t, tx] ty #[.slice (some ⟨b, 0, none⟩) n c, x]).run P w = .ok r w' ∧ OpPost k H w Q r w' := by
  obtain ⟨e, i, z, ht, hi, hz, rfl, hzs, hsp⟩ := D
  obtain ⟨cs, e', g1, g2, g3, g4⟩ := hr.own _ _ hb
  obtain ⟨cs', e'', fr, q1, q2⟩ := hr.rows _ _ hR
  rw [g1] at q1
  cases q1
  rw [Nat.zero_add] at hc
  have hnews : news.length = m * i.size := by rw [hln.1, hm]
  have hfit : n * i.size + news.length ≤ cs.size := by
    rw [hnews, ← Nat.add_mul, q2]
    exact Nat.le_trans (Nat.mul_le_mul_right _ hg) hc
  have hst := run_storeCells_at P b (n * i.size) e' news 0 cs w g1 (by simpa using hfit) hs.one
  simp only [Nat.add_zero] at hst
  have hrun : (Builtin.append_ #[t, tx] ty #[.slice (some ⟨b, 0, none⟩) n c, x]).run P w = .ok (.slice (some ⟨b, 0, none⟩) (n + m) c) (w.setRow b (cs.toList.take (n * i.size) ++ news ++ cs.toList.drop (n * i.size + news.length)).toArray) := by
    rcases hs.kind with ⟨e2, hk⟩ | hk <;> simp [Builtin.append_, run_underlying ht, run_underlying hk, sizeOf, typeInfo, hi, hs.len, hg, hs.cells, bO, hst]
  obtain ⟨s1, s2⟩ := hr.setRow g1 (seg_size cs news _ hfit) hb (x := .arr i.size (es.take n ++ fs)) ⟨_, e', setRow_heap w b cs _ e' _ g1, by
      rw [seg_size _ _ _ hfit, List.length_append, List.length_take, Nat.min_eq_left hn, hm, q2]
      exact Nat.le_trans (Nat.mul_le_mul_right _ hg) hc, fun a ha => by
      rcases List.mem_append.1 ha with h' | h'
      · exact g3 a (List.mem_of_mem_take h')
      · exact hln.2.1 a h', fun a el j y ha hj => by
      rw [seg_get _ _ _ _ hfit]
      have hlt : (es.take n).length = n := by simp; omega
      by_cases c0 : a < n
      · rw [List.getElem?_append_left (by omega), List.getElem?_take_of_lt c0] at ha
        have hj' : j < i.size := by rw [← g3 el (List.mem_of_getElem? ha)]; exact (List.getElem?_eq_some_iff.1 hj).1
        have := flat_lt c0 hj'
        rw [if_neg (by omega)]
        exact g4 a el j y ha hj
      · rw [List.getElem?_append_right (by omega), hlt] at ha
        have ha' : a - n < m := by rw [← hm]; exact (List.getElem?_eq_some_iff.1 ha).1
        have hj' : j < i.size := by rw [← hln.2.1 el (List.mem_of_getElem? ha)]; exact (List.getElem?_eq_some_iff.1 hj).1
        have h1 := flat_lt ha' hj'
        have e1 : a * i.size = n * i.size + (a - n) * i.size := by rw [← Nat.add_mul]; congr 1; omega
        rw [if_pos (by omega)]
        obtain ⟨u, hu, hcu⟩ := hln.2.2 _ el j y ha hj
        refine ⟨u, ?_, hcu⟩
        rw [← hu]
        congr 1
        omega⟩
  refine ⟨_, _, hrun, _, _, _, h, K.le.refl _, s1, ?_, s2⟩
  have := Conc.osl (k := k) b 0 (n + m) i.size c rs false hR hg (by rw [Nat.zero_add]; exact hc) (fun hf => by cases hf)
  rw [Nat.zero_mul] at this
  exact this

/-- Nothing is appended: the slice itself. -/
theorem append_none {P : Program} {k : K} {H : Hp} {w : World} (hr : Rel k H w) {t tx ty : TypeId} {sz : Nat} (D : Dst P t sz) {base : Option Addr} {n c : Nat} {x : Value} (hs : Src P sz tx x 0 [] w) (hg : n ≤ c) {y : V} (hy : Conc k (.slice base n c) y)
    {Q : V → Hp → Prop} (h : Q y H) : ∃ r w', (Builtin.append_ #[t, tx] ty #[.slice base n c, x]).run P w = .ok r w' ∧ OpPost k H w Q r w' := by
  obtain ⟨e, i, z, ht, hi, hz, rfl, hzs, hsp⟩ := D
  refine ⟨.slice base n c, w, ?_, y, H, k, h, K.le.refl _, hr, hy, Fr.refl _ _⟩
  cases base <;> rcases hs.kind with ⟨e2, hk⟩ | hk <;> simp [Builtin.append_, run_underlying ht, run_underlying hk, sizeOf, typeInfo, hi, hs.len, hg, hs.cells, storeCells]

/-- The elements of what is appended. -/
def srcV (P : Program) (H : Hp) (sz : Nat) (tx : TypeId) (x : V) : Option (List (List V)) :=
  match P.underlying tx with
  | some (.slice _) => ao H sz x
  | some .string => match x with
    | .str s => if sz = 1 then some (s.data.toList.map fun b => [.int .u8 (b.toNat : Int)]) else none
    | _ => none
  | _ => none

theorem srcV_sound {P : Program} {k : K} {H : Hp} {w : World} (hr : Rel k H w) {sz : Nat} (hsp : 0 < sz) {tx : TypeId} {v : Value} {x : V} (hx : Conc k v x) {fs : List (List V)} (h : srcV P H sz tx x = some fs) (ho : bo fs = true) :
    ∃ news, Src P sz tx v fs.length news w ∧ Lay k news sz fs := by
  unfold srcV at h
  split at h
  · rename_i e hu
    obtain ⟨a, c, rfl, hle, hsz, news, hl, hc, hn, hcc⟩ := view_cells hr hx hsp h
    have h1 := news_one hsp hl hsz hcc ho
    refine ⟨news, ?_, hl, hsz, hcc⟩
    cases a with
    | none =>
      have := hn rfl
      subst this
      have : news = [] := List.eq_nil_of_length_eq_zero (by rw [hl]; simp)
      subst this
      exact Src.ofNil w hu c
    | some ad =>
      refine Src.ofSlice w hu ad fs.length c news hl (fun j u hj => ?_) h1
      obtain ⟨ad', e1, h2⟩ := hc j u hj
      cases e1
      exact h2
  · rename_i hu
    split at h
    · split at h
      · rename_i s hs1
        cases h
        subst hs1
        cases hx
        refine ⟨byteCells s, ?_, ?_, ?_, fun i e j y hi hj => ?_⟩
        · have := Src.ofString (P := P) w hu s
          have e1 : (s.data.toList.map fun b => [V.int .u8 (b.toNat : Int)]).length = s.size := by rw [List.length_map, Array.length_toList]; rfl
          rw [e1]
          exact this
        · simp [byteCells]
        · intro e he
          obtain ⟨b, _, rfl⟩ := List.mem_map.1 he
          rfl
        · simp only [List.getElem?_map, Option.map_eq_some_iff] at hi
          obtain ⟨b, hb, rfl⟩ := hi
          cases j with
          | zero =>
            simp only [List.getElem?_cons_zero, Option.some.injEq] at hj
            subst hj
            refine ⟨.int .u8 b.toNat, ?_, .int _ _⟩
            simp only [byteCells, Nat.mul_one, Nat.add_zero, List.getElem?_map, hb, Option.map_some]
          | succ j => simp at hj
      · cases h
    · cases h
  · cases h

def dstT (P : Program) (t : TypeId) : Option Nat :=
  match P.underlying t with
  | some (.slice e) => match P.info? e with
    | some i => match i.zero with
      | some z => if z.cells.size = i.size ∧ 0 < i.size then some i.size else none
      | none => none
    | none => none
  | _ => none
theorem dstT_spec {P : Program} {t : TypeId} {sz : Nat} (h : dstT P t = some sz) : Nonempty (Dst P t sz) := by
  unfold dstT at h
  split at h
  · rename_i e hu
    split at h
    · rename_i i hi
      split at h
      · rename_i z hz
        split at h
        · rename_i hc
          cases h
          exact ⟨⟨e, i, z, hu, hi, hz, rfl, hc.1, hc.2⟩⟩
        · cases h
      · cases h
    · cases h
  · cases h

/-- **append.** -/
def wpAppend0 (P : Program) (H : Hp) (t tx : TypeId) (d x : V) (Q : V → Hp → Prop) : Prop :=
  ∃ sz fs, dstT P t = some sz ∧ srcV P H sz tx x = some fs ∧ bo fs = true ∧
    match d with
    | .nils => fs.length * bT P t ≤ 140737488355328 ∧ fs.length ≤ 140737488355328 ∧ (fs = [] → Q .nils H) ∧ (fs ≠ [] → ∀ b, H b = none → Q (.osl b 0 fs.length sz false) (upd H b (some (.arr sz fs))))
    | .sl sz' es full => sz' = sz ∧ full = true ∧ (es.length + fs.length) * bT P t ≤ 140737488355328 ∧ es.length + fs.length ≤ 140737488355328 ∧ (fs = [] → Q (.sl sz es full) H) ∧
        (fs ≠ [] → ∀ b, H b = none → Q (.osl b 0 (es.length + fs.length) sz false) (upd H b (some (.arr sz (es ++ fs)))))
    | .osl b0 i n sz' _ => match H b0 with
      | some (.arr sz'' es) => sz' = sz ∧ sz'' = sz ∧ i = 0 ∧ n ≤ es.length ∧ (n + fs.length) * bT P t ≤ 140737488355328 ∧ n + fs.length ≤ 140737488355328 ∧
          ∀ b, (b = b0 ∨ H b = none) → Q (.osl b 0 (n + fs.length) sz false) (upd (upd H b0 none) b (some (.arr sz (es.take n ++ fs))))
      | _ => False
    | _ => False

theorem wpAppend0_sound {P : Program} {k : K} {H : Hp} {w : World} (hr : Rel k H w) {t tx ty : TypeId} {v u : Value} {d x : V} (hd : Conc k v d) (hx : Conc k u x) {Q : V → Hp → Prop} (h : wpAppend0 P H t tx d x Q) :
    ∃ r w', (Builtin.append_ #[t, tx] ty #[v, u]).run P w = .ok r w' ∧ OpPost k H w Q r w' := by
  obtain ⟨sz, fs, hdt, hsv, ho, h⟩ := h
  obtain ⟨D⟩ := dstT_spec hdt
  obtain ⟨news, hS, hLn⟩ := srcV_sound hr D.hs hx hsv ho
  have hnil : fs = [] → news = [] := fun e => List.eq_nil_of_length_eq_zero (by rw [hLn.1, e]; simp)
  cases hd <;> dsimp only at h <;> try (exact h.elim)
  case nils =>
    obtain ⟨h1, h2, h3, h4⟩ := h
    by_cases c : fs = []
    · have := hnil c
      subst c; subst this
      exact append_none hr D hS (Nat.le_refl _) .nils (h3 rfl)
    · have hpos : 0 < fs.length := List.length_pos_iff.2 c
      have := append_grow (olds := []) (es := []) (n := 0) (c := 0) (base := none) (ty := ty) (Q := Q) hr D ⟨by simp, by simp, by simp⟩ rfl (by simp) (fun _ => rfl) hS hLn rfl (by omega) (by rw [Nat.zero_add]; exact h1) (by omega)
        (by rw [Nat.zero_add]; simpa using h4 c)
      exact this
  case slnil sz' full =>
    obtain ⟨rfl, hf, h1, h2, h3, h4⟩ := h
    by_cases c : fs = []
    · have := hnil c
      subst c; subst this
      exact append_none hr D hS (Nat.le_refl _) (.slnil _ _) (h3 rfl)
    · have hpos : 0 < fs.length := List.length_pos_iff.2 c
      have := append_grow (olds := []) (es := []) (n := 0) (c := 0) (base := none) (ty := ty) (Q := Q) hr D ⟨by simp, by simp, by simp⟩ rfl (by simp) (fun _ => rfl) hS hLn rfl (by omega) (by simpa using h1) (by simpa using h2)
        (by simpa using h4 c)
      exact this
  case slz ad0 sz' full =>
    obtain ⟨rfl, hf, h1, h2, h3, h4⟩ := h
    by_cases c : fs = []
    · have := hnil c
      subst c; subst this
      exact append_none hr D hS (Nat.le_refl _) (.slz _ _ _) (h3 rfl)
    · have hpos : 0 < fs.length := List.length_pos_iff.2 c
      have := append_grow (olds := []) (es := []) (n := 0) (c := 0) (base := some ad0) (ty := ty) (Q := Q) hr D ⟨by simp, by simp, by simp⟩ rfl (by simp) (fun h => by cases h) hS hLn rfl (by omega) (by simpa using h1) (by simpa using h2)
        (by simpa using h4 c)
      exact this
  case sl b off cap sz' es full vs hszs hcap hf hM hcv =>
    obtain ⟨rfl, hf', h1, h2, h3, h4⟩ := h
    have hcap' := hf hf'
    subst hcap'
    have hd' : Conc k (.slice (some ⟨b, off, none⟩) es.length es.length) (.sl sz' es full) := .sl b off _ sz' es full vs hszs hcap hf hM hcv
    by_cases c : fs = []
    · have := hnil c
      subst c; subst this
      exact append_none hr D hS (Nat.le_refl _) hd' (h3 rfl)
    · have hpos : 0 < fs.length := List.length_pos_iff.2 c
      obtain ⟨a, c', e1, _, hsz, olds, hlo, hco, _, hcc⟩ := view_cells (H := H) hr hd' D.hs (es := es) (by simp [ao])
      cases e1
      exact append_grow hr D ⟨hlo, hsz, hcc⟩ rfl hco (fun e => by cases e) hS hLn rfl (by omega) h1 h2 (h4 c)
  case osl b0 i n sz' cap c full hR hcap hcc hf =>
    split at h
    · rename_i sz'' es hb
      obtain ⟨rfl, rfl, rfl, hn, h1, h2, h3⟩ := h
      have hd' : Conc k (.slice (some ⟨b0, 0 * sz'', none⟩) n cap) (.osl b0 0 n sz'' full) := .osl b0 0 n sz'' cap c full hR hcap hcc hf
      rw [Nat.zero_mul] at hd' ⊢
      have hupd : ∀ (x : Blk), upd (upd H b0 none) b0 (some x) = upd H b0 (some x) := fun x => by funext j; simp only [upd]; split <;> rfl
      by_cases c' : n + fs.length ≤ cap
      · refine append_room hr D hb hn hR hcc hS hLn rfl c' ?_
        have := h3 b0 (.inl rfl)
        rw [hupd] at this
        exact this
      · obtain ⟨a, c'', e1, _, hsz, olds, hlo, hco, _, hcc'⟩ := view_cells (H := H) hr hd' D.hs (es := es.take n) (by simp [ao, hb]; omega)
        have hlen : (es.take n).length = n := by simp; omega
        rw [hlen] at e1
        cases e1
        have hr' : Rel k (upd H b0 none) w := hr.drop (fun b x hx => by
          by_cases e : b = b0
          · subst e; rw [upd_same] at hx; cases hx
          · rw [ah _ _ _ e] at hx; exact hx)
        obtain ⟨r, w', hrun, y, H', k', hq, hk, hrel, hc, hfr⟩ := append_grow (Q := Q) (n := n) (c := cap) (base := some ⟨b0, 0, none⟩) (es := es.take n) (olds := olds) hr' D (ty := ty) ⟨hlo, hsz, hcc'⟩ hlen (fun j u hj => by
          obtain ⟨ad, e1, e2⟩ := hco j u hj
          cases e1
          exact ⟨_, rfl, by simpa using e2⟩) (fun e => by cases e) hS hLn rfl (by omega) h1 h2 (fun b hbn => by
          by_cases e : b = b0
          · subst e
            exact h3 b (.inl rfl)
          · rw [ah _ _ _ e] at hbn
            exact h3 b (.inr hbn))
        refine ⟨r, w', hrun, y, H', k', hq, hk, hrel, hc, ⟨hfr.os, hfr.tape, hfr.out, hfr.size, fun b hb' hn' => hfr.same b hb' ?_, fun b hb' hn' => hfr.dom b hb' ?_⟩⟩
        · by_cases e : b = b0
          · subst e; exact upd_same _ _ _
          · rw [ah _ _ _ e]; exact hn'
        · by_cases e : b = b0
          · subst e; exact upd_same _ _ _
          · rw [ah _ _ _ e]; exact hn'
    · exact h.elim

/-- append(nil, make(.., n)..): n zeros, of which nothing is said. -/
def wpAppendZ (P : Program) (H : Hp) (t tx : TypeId) (d x : V) (Q : V → Hp → Prop) : Prop :=
  d = .nils ∧ ∃ (n sz : Nat) (k : IntKind), x = .int .i64 n ∧ P.underlying tx = some (.int k) ∧ dstT P t = some sz ∧ 0 < n ∧ n * bT P t ≤ 140737488355328 ∧ n ≤ 140737488355328 ∧
    ∀ b, H b = none → Q (.osl b 0 n sz false) (upd H b (some (.arr sz [])))

theorem run_append_zeros {P : Program} (w : World) {t tx ty e : TypeId} {i : TypeInfo} {z : Value} {k : IntKind} (ht : P.underlying t = some (.slice e)) (hk : P.underlying tx = some (.int k)) (hi : P.info? e = some i) (hz : i.zero = some z) (n : Nat) (hn : 0 < n) (hsz : 0 < i.size)
    (hb : n * i.bytes ≤ 140737488355328) (h63 : n ≤ 140737488355328) :
    (Builtin.append_ #[t, tx] ty #[.slice none 0 0, .int .i64 n]).run P w =
      .ok (.slice (some ⟨w.heap.size, 0, none⟩) n (grownCap w n 0 e)) (w.drew.alloc (.cells (Builtin.zeroCells z.cells n ++ Builtin.zeroCells z.cells (grownCap w n 0 e - n)) e)) := by
  have w1 : IntKind.i64.wrap (n : Int) = n := IntWalk.i64_in _ (by omega)
  have n1 : ¬ ((n : Int) < 0) := by omega
  have n2 : ¬ (281474976710656 < (n : Int) * (i.bytes : Int)) := by
    rw [← Int.natCast_mul]; omega
  have n3 : ¬ (n ≤ 0) := by omega
  have n4 : ¬ (9223372036854775807 < (n : Int)) := by omega
  have n5 : ¬ (281474976710656 < Builtin.nextslicecap n 0 * i.bytes) := by
    have := growslice_fits (need := n) (old := 0) (by omega) hb
    omega
  have n6 : ¬ (n = 0 ∨ i.size = 0) := by omega
  have n7 : ¬ (n = 0) := by omega
  have n8 : ¬ (i.size = 0) := by omega
  simp [Builtin.append_, run_underlying ht, run_underlying hk, sizeOf, typeInfo, zeroValue, hi, hz, asInt, asIntOf, w1, n1, n2, n3, n4, n5, n6, n7, n8, Question.forced, newRow, grownCap, Builtin.firstCells]
  intro h
  have := Nat.mul_pos hn hsz
  omega

theorem wpAppendZ_sound {P : Program} {k : K} {H : Hp} {w : World} (hr : Rel k H w) {t tx ty : TypeId} {v u : Value} {d x : V} (hd : Conc k v d) (hx : Conc k u x) {Q : V → Hp → Prop} (h : wpAppendZ P H t tx d x Q) :
    ∃ r w', (Builtin.append_ #[t, tx] ty #[v, u]).run P w = .ok r w' ∧ OpPost k H w Q r w' := by
  obtain ⟨rfl, n, sz, ik, rfl, hk, hdt, hn, hb, h63, hQ⟩ := h
  cases hd
  cases hx
  obtain ⟨⟨e, i, z, ht, hi, hz, rfl, hzs, hsp⟩⟩ := dstT_spec hdt
  rw [bytesT_spec ht hi] at hb
  have hL : Laid k (Builtin.zeroCells z.cells n ++ Builtin.zeroCells z.cells (grownCap w n 0 e - n)) i.size [] := ⟨by simp, by simp, by simp⟩
  obtain ⟨g1, g2, g3⟩ := alloc_arr (e := e) hr.drew hL
  have hge := grownCap_ge w n 0 e
  refine ⟨_, _, run_append_zeros w ht hk hi hz n hn hsp hb h63, _, _, _, hQ w.drew.heap.size hr.drew.fresh, g1, g2, ?_, (Fr.drew H w).trans (Fr.alloc_own _ _)⟩
  have hsize : (0 + grownCap w n 0 e) * i.size ≤ (Builtin.zeroCells z.cells n ++ Builtin.zeroCells z.cells (grownCap w n 0 e - n)).size := by
    rw [Nat.zero_add, Array.size_append, size_zeroCells, size_zeroCells, hzs, ← Nat.add_mul]
    exact Nat.mul_le_mul_right _ (by omega)
  have := Conc.osl (k := _) w.drew.heap.size 0 n i.size _ _ false g3 hge hsize (fun hf => by cases hf)
  rw [Nat.zero_mul] at this
  exact this

/-- **append.** -/
def wpAppend (P : Program) (H : Hp) (t tx : TypeId) (d x : V) (Q : V → Hp → Prop) : Prop := wpAppend0 P H t tx d x Q ∨ wpAppendZ P H t tx d x Q
theorem wpAppend_sound {P : Program} {k : K} {H : Hp} {w : World} (hr : Rel k H w) {t tx ty : TypeId} {v u : Value} {d x : V} (hd : Conc k v d) (hx : Conc k u x) {Q : V → Hp → Prop} (h : wpAppend P H t tx d x Q) :
    ∃ r w', (Builtin.append_ #[t, tx] ty #[v, u]).run P w = .ok r w' ∧ OpPost k H w Q r w' := by
  rcases h with h | h
  · exact wpAppend0_sound hr hd hx h
  · exact wpAppendZ_sound hr hd hx h

end Go.Av
