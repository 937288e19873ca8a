/-
  Abstract values: a layer over the walk's laws. Slices that nobody writes any more stand by value; what may be written is a block with its number.
-/
import Derived.WalkKit
import Derived.RangeFuncRecord
import Derived.RangeFuncIn
import Derived.RangeFuncLeaves
namespace Go.Av
open Go.RowKit

inductive V where
  | int (k : IntKind) (n : Int)
  | bool (b : Bool)
  | str (s : ByteArray)
  | nilp
  | ptr (b off : Nat)
  | eptr (b i off sz : Nat)
  | cptr (e : List V) (off : Nat)
  | nils
  | sl (sz : Nat) (es : List (List V)) (full : Bool)
  | osl (b i n sz : Nat) (full : Bool)
  | rsl (b off n sz : Nat)
  | agg (cs : List V)
  | tup (vs : List V)
  | fn (f : Fn) (first caps : List V)
  | niln
  | mp (b : Nat)
  | nilm
  | junk
  deriving Inhabited

inductive Blk where
  | row (cells : List V)
  | arr (sz : Nat) (es : List (List V))
  | raw (o : Obj)
  | map (es : List (V × V × Nat)) (clock : Nat)

structure K where
  M : Nat → Nat → Option Value
  R : Nat → Option Nat

structure K.le (k k' : K) : Prop where
  m : ∀ b o v, k.M b o = some v → k'.M b o = some v
  r : ∀ b c, k.R b = some c → k'.R b = some c

theorem K.le.refl (k : K) : k.le k := ⟨fun _ _ _ h => h, fun _ _ h => h⟩
theorem K.le.trans {a b c : K} (h : a.le b) (g : b.le c) : a.le c := ⟨fun _ _ _ x => g.m _ _ _ (h.m _ _ _ x), fun _ _ x => g.r _ _ (h.r _ _ x)⟩

inductive Conc (k : K) : Value → V → Prop
  | int (i : IntKind) (n : Int) : Conc k (.int i n) (.int i n)
  | bool (b : Bool) : Conc k (.bool b) (.bool b)
  | str (s : ByteArray) : Conc k (.string s) (.str s)
  | nilp : Conc k (.pointer none) .nilp
  | ptr (b off : Nat) : Conc k (.pointer (some ⟨b, off, none⟩)) (.ptr b off)
  | eptr (b i off sz : Nat) : Conc k (.pointer (some ⟨b, i * sz + off, none⟩)) (.eptr b i off sz)
  | cptr (b o off : Nat) (e : List V) (vs : Nat → Value) (hM : ∀ j, j < e.length → k.M b (o + j) = some (vs j))
      (hc : ∀ (j : Nat) x, e[j]? = some x → Conc k (vs j) x) : Conc k (.pointer (some ⟨b, o + off, none⟩)) (.cptr e off)
  | nils : Conc k (.slice none 0 0) .nils
  | slnil (sz : Nat) (full : Bool) : Conc k (.slice none 0 0) (.sl sz [] full)
  | sl (b off cap sz : Nat) (es : List (List V)) (full : Bool) (vs : Nat → Nat → Value) (hsz : ∀ e ∈ es, e.length = sz) (hcap : es.length ≤ cap)
      (hf : full = true → cap = es.length) (hM : ∀ i j, i < es.length → j < sz → k.M b (off + i * sz + j) = some (vs i j))
      (hc : ∀ (i : Nat) e (j : Nat) x, es[i]? = some e → e[j]? = some x → Conc k (vs i j) x) : Conc k (.slice (some ⟨b, off, none⟩) es.length cap) (.sl sz es full)
  | osl (b i n sz cap c : Nat) (full : Bool) (hR : k.R b = some c) (hcap : n ≤ cap) (hc : (i + cap) * sz ≤ c) (hf : full = true → cap = n) :
      Conc k (.slice (some ⟨b, i * sz, none⟩) n cap) (.osl b i n sz full)
  | rsl (b off n sz cap : Nat) (hcap : n ≤ cap) : Conc k (.slice (some ⟨b, off, none⟩) n cap) (.rsl b off n sz)
  | agg (cs : Array Value) (xs : List V) (hl : xs.length = cs.size) (hc : ∀ (j : Nat) v x, cs[j]? = some v → xs[j]? = some x → Conc k v x) : Conc k (.agg cs) (.agg xs)
  | tup (cs : Array Value) (xs : List V) (hl : xs.length = cs.size) (hc : ∀ (j : Nat) v x, cs[j]? = some v → xs[j]? = some x → Conc k v x) : Conc k (.tuple cs) (.tup xs)
  | fn (f : Fn) (a c : Array Value) (xs ys : List V) (h1 : xs.length = a.size) (h2 : ys.length = c.size)
      (ha : ∀ (j : Nat) v x, a[j]? = some v → xs[j]? = some x → Conc k v x) (hc : ∀ (j : Nat) v x, c[j]? = some v → ys[j]? = some x → Conc k v x) : Conc k (.func f a c) (.fn f xs ys)
  | niln : Conc k .nilFunc .niln
  | mp (b : Nat) : Conc k (.map (some b)) (.mp b)
  | nilm : Conc k (.map none) .nilm
  | junk (v : Value) : Conc k v .junk

theorem Conc.mono {k k' : K} (hk : k.le k') {v : Value} {x : V} (h : Conc k v x) : Conc k' v x := by
  induction h with
  | int i n => exact .int i n
  | bool b => exact .bool b
  | str s => exact .str s
  | nilp => exact .nilp
  | ptr b off => exact .ptr b off
  | eptr b i off sz => exact .eptr b i off sz
  | cptr b o off e vs hM _ ih => exact .cptr b o off e vs (fun j hj => hk.m _ _ _ (hM j hj)) ih
  | nils => exact .nils
  | slnil sz full => exact .slnil sz full
  | sl b off cap sz es full vs hsz hcap hf hM _ ih => exact .sl b off cap sz es full vs hsz hcap hf (fun i j hi hj => hk.m _ _ _ (hM i j hi hj)) ih
  | osl b i n sz cap c full hR hcap hc hf => exact .osl b i n sz cap c full (hk.r _ _ hR) hcap hc hf
  | rsl b off n sz cap h => exact .rsl b off n sz cap h
  | agg cs xs hl _ ih => exact .agg cs xs hl ih
  | tup cs xs hl _ ih => exact .tup cs xs hl ih
  | fn f a c xs ys h1 h2 _ _ i1 i2 => exact .fn f a c xs ys h1 h2 i1 i2
  | niln => exact .niln
  | mp b => exact .mp b
  | nilm => exact .nilm
  | junk v => exact .junk v

/-- Value lists, one by one. -/
def ConcL (k : K) (vs : Array Value) (xs : List V) : Prop := xs.length = vs.size ∧ ∀ (j : Nat) v x, vs[j]? = some v → xs[j]? = some x → Conc k v x

theorem ConcL.mono {k k' : K} (hk : k.le k') {vs : Array Value} {xs : List V} (h : ConcL k vs xs) : ConcL k' vs xs := ⟨h.1, fun j v x a b => (h.2 j v x a b).mono hk⟩

def BlkOk (k : K) (w : World) (b : Nat) : Blk → Prop
  | .row cells => ∃ cs e, w.heap[b]? = some (.cells cs e (0, 0)) ∧ ConcL k cs cells
  | .arr sz es => ∃ cs e, w.heap[b]? = some (.cells cs e (0, 0)) ∧ es.length * sz ≤ cs.size ∧ (∀ e ∈ es, e.length = sz) ∧
      ∀ (i : Nat) e (j : Nat) x, es[i]? = some e → e[j]? = some x → ∃ v, cs[i * sz + j]? = some v ∧ Conc k v x
  | .raw o => w.heap[b]? = some o ∧ ∀ cs e fr, o ≠ .cells cs e fr
  | .map es clock => ∃ ms, w.heap[b]? = some (.map ms clock) ∧ es.length = ms.size ∧
      ∀ (j : Nat) m x, ms[j]? = some m → es[j]? = some x → Conc k m.key x.1 ∧ Conc k m.val x.2.1 ∧ m.born = x.2.2

abbrev Hp := Nat → Option Blk

structure Rel (k : K) (H : Hp) (w : World) : Prop where
  imm : ∀ b o v, k.M b o = some v → w.cell? ⟨b, o, none⟩ = some v ∧ H b = none
  rows : ∀ b c, k.R b = some c → ∃ cs e fr, w.heap[b]? = some (.cells cs e fr) ∧ cs.size = c
  own : ∀ b x, H b = some x → BlkOk k w b x

/-- What a piece of the run may turn: the owned blocks, and new ones. -/
structure Fr (H : Hp) (w : World) (H' : Hp) (w' : World) : Prop where
  os : w'.os = w.os
  tape : w'.tape = w.tape
  out : w'.output = w.output
  size : w.heap.size ≤ w'.heap.size
  same : ∀ b, b < w.heap.size → H b = none → w'.heap[b]? = w.heap[b]?
  dom : ∀ b, b < w.heap.size → H b = none → H' b = none

theorem Fr.refl (H : Hp) (w : World) : Fr H w H w := ⟨rfl, rfl, rfl, Nat.le_refl _, fun _ _ _ => rfl, fun _ _ h => h⟩
theorem Fr.trans {H H1 H2 : Hp} {w w1 w2 : World} (h : Fr H w H1 w1) (g : Fr H1 w1 H2 w2) : Fr H w H2 w2 :=
  ⟨g.os.trans h.os, g.tape.trans h.tape, g.out.trans h.out, Nat.le_trans h.size g.size,
    fun b hb hn => (g.same b (Nat.lt_of_lt_of_le hb h.size) (h.dom b hb hn)).trans (h.same b hb hn),
    fun b hb hn => g.dom b (Nat.lt_of_lt_of_le hb h.size) (h.dom b hb hn)⟩

def upd {α : Type} (f : Nat → α) (i : Nat) (x : α) : Nat → α := fun j => if j = i then x else f j
theorem upd_apply {α : Type} (f : Nat → α) (i : Nat) (x : α) (j : Nat) : upd f i x j = if j = i then x else f j := rfl
@[simp] theorem upd_same {α : Type} (f : Nat → α) (i : Nat) (x : α) : upd f i x i = x := by simp [upd]
theorem upd_ne {α : Type} (f : Nat → α) (i : Nat) (x : α) {j : Nat} (h : j ≠ i) : upd f i x j = f j := by simp [upd, h]

/-- An owned block lies in the heap. -/
theorem Rel.lt {k : K} {H : Hp} {w : World} (h : Rel k H w) {b : Nat} {x : Blk} (hb : H b = some x) : b < w.heap.size := by
  have := h.own b x hb
  have key : ∀ o, w.heap[b]? = some o → b < w.heap.size := fun o ho => (Array.getElem?_eq_some_iff.1 ho).1
  cases x with
  | row cells => obtain ⟨cs, e, h1, _⟩ := this; exact key _ h1
  | arr sz es => obtain ⟨cs, e, h1, _⟩ := this; exact key _ h1
  | raw o => exact key _ this.1
  | map es c => obtain ⟨ms, h1, _⟩ := this; exact key _ h1

theorem BlkOk.mono {k k' : K} (hk : k.le k') {w w' : World} {b : Nat} (hw : w'.heap[b]? = w.heap[b]?) {x : Blk} (h : BlkOk k w b x) : BlkOk k' w' b x := by
  cases x with
  | row cells => obtain ⟨cs, e, h1, h2⟩ := h; exact ⟨cs, e, hw.trans h1, h2.mono hk⟩
  | arr sz es =>
    obtain ⟨cs, e, h1, h2, h3, h4⟩ := h
    refine ⟨cs, e, hw.trans h1, h2, h3, fun i e' j x a b => ?_⟩
    obtain ⟨v, hv, hc⟩ := h4 i e' j x a b
    exact ⟨v, hv, hc.mono hk⟩
  | raw o => exact ⟨hw.trans h.1, h.2⟩
  | map es c =>
    obtain ⟨ms, h1, h2, h3⟩ := h
    refine ⟨ms, hw.trans h1, h2, fun j m x a b => ?_⟩
    obtain ⟨p, q, r⟩ := h3 j m x a b
    exact ⟨p.mono hk, q.mono hk, r⟩

/-- Fewer owned blocks may be claimed. -/
theorem Rel.drop {k : K} {H H' : Hp} {w : World} (h : Rel k H w) (hd : ∀ b x, H' b = some x → H b = some x) : Rel k H' w :=
  ⟨fun b o v hm => ⟨(h.imm b o v hm).1, by
      cases hh : H' b with
      | none => rfl
      | some x => have := hd b x hh; rw [(h.imm b o v hm).2] at this; cases this⟩, h.rows, fun b x hb => h.own b x (hd b x hb)⟩

/-- A world that differs in no block at all. -/
theorem Rel.heap {k : K} {H : Hp} {w w' : World} (h : Rel k H w) (hw : w'.heap = w.heap) : Rel k H w' :=
  ⟨fun b o v hm => ⟨by rw [← (h.imm b o v hm).1]; simp [World.cell?, hw], (h.imm b o v hm).2⟩,
    fun b c hr => by rw [hw]; exact h.rows b c hr, fun b x hb => (h.own b x hb).mono (K.le.refl _) (by rw [hw])⟩

theorem cell?_of_heap {w w' : World} {b : Nat} (h : w'.heap[b]? = w.heap[b]?) (o : Nat) : w'.cell? ⟨b, o, none⟩ = w.cell? ⟨b, o, none⟩ := by
  simp [World.cell?, h]

theorem cell?_cells {w : World} {b : Nat} {cs : Array Value} {e : TypeId} {fr : Nat × Nat} (h : w.heap[b]? = some (.cells cs e fr)) (o : Nat) : w.cell? ⟨b, o, none⟩ = cs[o]? := by
  simp [World.cell?, h]

theorem lt_of_cell {w : World} {b o : Nat} {v : Value} (h : w.cell? ⟨b, o, none⟩ = some v) : b < w.heap.size := World.block_lt_of_cell? w ⟨b, o, none⟩ h

theorem Rel.M_lt {k : K} {H : Hp} {w : World} (h : Rel k H w) {b o : Nat} {v : Value} (hm : k.M b o = some v) : b < w.heap.size := lt_of_cell (h.imm b o v hm).1
theorem Rel.R_lt {k : K} {H : Hp} {w : World} (h : Rel k H w) {b c : Nat} (hr : k.R b = some c) : b < w.heap.size := by
  obtain ⟨cs, e, fr, h1, _⟩ := h.rows b c hr
  exact (Array.getElem?_eq_some_iff.1 h1).1

theorem heap_alloc_lt (w : World) (o : Obj) {b : Nat} (h : b < w.heap.size) : (w.alloc o).heap[b]? = w.heap[b]? := Below.heap_alloc w o b h
theorem heap_alloc_at (w : World) (o : Obj) : (w.alloc o).heap[w.heap.size]? = some o := World.alloc_heap_new w o

theorem Rel.fresh {k : K} {H : Hp} {w : World} (h : Rel k H w) : H w.heap.size = none := by
  cases hh : H w.heap.size with
  | none => rfl
  | some x => exact absurd (h.lt hh) (Nat.lt_irrefl _)

/-- A new block that nobody names. -/
theorem Rel.alloc_plain {k : K} {H : Hp} {w : World} (h : Rel k H w) (o : Obj) : Rel k H (w.alloc o) :=
  ⟨fun b o' v hm => ⟨by rw [cell?_of_heap (heap_alloc_lt w o (h.M_lt hm))]; exact (h.imm b o' v hm).1, (h.imm b o' v hm).2⟩,
    fun b c hr => by rw [heap_alloc_lt w o (h.R_lt hr)]; exact h.rows b c hr,
    fun b x hb => (h.own b x hb).mono (K.le.refl _) (heap_alloc_lt w o (h.lt hb))⟩

theorem Fr.alloc_plain (H : Hp) (w : World) (o : Obj) : Fr H w H (w.alloc o) :=
  ⟨rfl, rfl, rfl, by simp, fun b hb _ => heap_alloc_lt w o hb, fun _ _ h => h⟩

/-- A new block that is owned. -/
theorem Rel.alloc_own {k : K} {H : Hp} {w : World} (h : Rel k H w) (o : Obj) (x : Blk) (hx : BlkOk k (w.alloc o) w.heap.size x) : Rel k (upd H w.heap.size (some x)) (w.alloc o) := by
  have h' := h.alloc_plain o
  refine ⟨fun b o' v hm => ⟨(h'.imm b o' v hm).1, ?_⟩, h'.rows, fun b y hb => ?_⟩
  · rw [upd_ne _ _ _ (Nat.ne_of_lt (h.M_lt hm))]; exact (h.imm b o' v hm).2
  · by_cases e : b = w.heap.size
    · subst e; rw [upd_same] at hb; cases hb; exact hx
    · rw [upd_ne _ _ _ e] at hb; exact h'.own b y hb

theorem Fr.alloc_own {H : Hp} {w : World} (o : Obj) (x : Option Blk) : Fr H w (upd H w.heap.size x) (w.alloc o) :=
  ⟨rfl, rfl, rfl, by simp, fun b hb _ => heap_alloc_lt w o hb, fun b hb h => by rw [upd_ne _ _ _ (Nat.ne_of_lt hb)]; exact h⟩

/-- The row sizes may be written down. -/
def K.putR (k : K) (b c : Nat) : K := { k with R := fun b' => if b' = b then some c else k.R b' }
theorem Rel.putR {k : K} {H : Hp} {w : World} (h : Rel k H w) {b : Nat} {cs : Array Value} {e : TypeId} {fr : Nat × Nat} (hb : w.heap[b]? = some (.cells cs e fr)) :
    k.le (k.putR b cs.size) ∧ Rel (k.putR b cs.size) H w := by
  have hle : k.le (k.putR b cs.size) := by
    refine ⟨fun _ _ _ h => h, fun b' c hr => ?_⟩
    by_cases e' : b' = b
    · subst e'
      obtain ⟨cs', e1, fr', h1, h2⟩ := h.rows _ _ hr
      rw [hb] at h1; cases h1
      simp [K.putR, h2]
    · simp [K.putR, e', hr]
  refine ⟨hle, ⟨h.imm, fun b' c hr => ?_, fun b' x hx => (h.own b' x hx).mono hle rfl⟩⟩
  by_cases e' : b' = b
  · subst e'; simp only [K.putR, ↓reduceIte, Option.some.injEq] at hr; exact ⟨cs, e, fr, hb, hr⟩
  · simp only [K.putR, e', ↓reduceIte] at hr; exact h.rows b' c hr

/-- The cells of a block that nobody owns may be taken as lasting. -/
def K.putM (k : K) (b : Nat) (cs : Array Value) : K := { k with M := fun b' o => if b' = b then cs[o]? else k.M b' o }
theorem Rel.putM {k : K} {H : Hp} {w : World} (h : Rel k H w) {b : Nat} {cs : Array Value} {e : TypeId} {fr : Nat × Nat} (hb : w.heap[b]? = some (.cells cs e fr)) (hn : H b = none) :
    k.le (k.putM b cs) ∧ Rel (k.putM b cs) H w := by
  have hle : k.le (k.putM b cs) := by
    refine ⟨fun b' o v hm => ?_, fun _ _ h => h⟩
    by_cases e' : b' = b
    · subst e'
      have := (h.imm _ _ _ hm).1
      rw [cell?_cells hb] at this
      simp [K.putM, this]
    · simp [K.putM, e', hm]
  refine ⟨hle, ⟨fun b' o v hm => ?_, h.rows, fun b' x hx => (h.own b' x hx).mono hle rfl⟩⟩
  by_cases e' : b' = b
  · subst e'; simp only [K.putM, ↓reduceIte] at hm; exact ⟨by rw [cell?_cells hb]; exact hm, hn⟩
  · simp only [K.putM, e', ↓reduceIte] at hm; exact h.imm b' o v hm

end Go.Av
