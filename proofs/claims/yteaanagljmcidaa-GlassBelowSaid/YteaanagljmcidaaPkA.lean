/- Memory predicates: slices that read as lists, over a set of blocks; worlds that differ only within a set of blocks. · More on memory. · A range over a function whose rounds always go on: the caller's law. · A range over a function that keeps a variable of its own: the caller's law. · The leaves: bytes compared, copied, cut. · Comparisons. · Versions compared. · What merge's texts take from the skip list's, under names of their own. · A region that draws its order, with one last operation b (a store) that all loads stand ahead of: what the loads read need not hold behind b. · A byte is written over: what was a list of bytes is one still. · tomb: spans. tomb: Cover, All. · Versions and entries: alike, ahead, twins. · The order of versions. · How many stand ahead. · merge, in plain Lean: one list of all; the least and the greatest of what sources stand at. · Lists of entries: alike, copied, cut. -/
import Derived.WalkKit
import Derived.WalkSpells
import Derived.WalkLawsBesides
import Derived.Deep.Draws
import Derived.Lib.Hide
import Derived.Maps.AppendAt
import Derived.RangeFuncNested
import Derived.RangeFuncBound
import Derived.RangeFuncCalls
import Derived.RangeFuncLeaves
import Derived.Shelf.Abstract
import Derived.Shelf.RegionOpen
import Derived.OwnWalkIn
import Derived.TacticsInMore
import Derived.LoopNIn
import Derived.LoopIn
import Derived.Test.YteaanagljmcidaaProg
import Derived.Deep.RegionHeld3
import Derived.Deep.DrawnRows
import Derived.BigQuiet
import Derived.Deep.QuietTactic
import Derived.Handy
import Derived.Laws.BitsAllLaws
import Derived.Deep.DeepCutAuto
namespace Go.Proofs.Yteaanagljmcidaa
open Go.RowKit

/-- Blocks that were there and lie outside S are as they were. -/
structure Out (S : Nat → Prop) (w w' : World) : Prop where
  os : w'.os = w.os
  tape : w'.tape = w.tape
  output : w'.output = w.output
  size : w.heap.size ≤ w'.heap.size
  block : ∀ k, k < w.heap.size → ¬ S k → w'.heap[k]? = w.heap[k]?

/-- All that was there is as it was. -/
abbrev Ext (w w' : World) : Prop := Out (fun _ => False) w w'

theorem Out.refl (S : Nat → Prop) (w : World) : Out S w w := ⟨rfl, rfl, rfl, Nat.le_refl _, fun _ _ _ => rfl⟩
theorem Out.mono {S T : Nat → Prop} {w w' : World} (h : Out S w w') (hs : ∀ k, k < w.heap.size → S k → T k) : Out T w w' :=
  ⟨h.os, h.tape, h.output, h.size, fun k hk hn => h.block k hk fun s => hn (hs k hk s)⟩
theorem Out.trans {S : Nat → Prop} {a b c : World} (h : Out S a b) (k : Out S b c) : Out S a c :=
  ⟨k.os.trans h.os, k.tape.trans h.tape, k.output.trans h.output, Nat.le_trans h.size k.size,
    fun i hi hn => (k.block i (Nat.lt_of_lt_of_le hi h.size) hn).trans (h.block i hi hn)⟩
/-- A step that turns old blocks of S alone, and new ones at will. -/
theorem Out.then {S T : Nat → Prop} {a b c : World} (h : Out S a b) (k : Out T b c) (ht : ∀ i, i < a.heap.size → T i → S i) : Out S a c :=
  ⟨k.os.trans h.os, k.tape.trans h.tape, k.output.trans h.output, Nat.le_trans h.size k.size,
    fun i hi hn => (k.block i (Nat.lt_of_lt_of_le hi h.size) fun t => hn (ht i hi t)).trans (h.block i hi hn)⟩
theorem Out.ext {S : Nat → Prop} {a b c : World} (h : Out S a b) (k : Ext b c) : Out S a c := h.then k fun _ _ f => f.elim
theorem Ext.out {w w' : World} (h : Ext w w') (S : Nat → Prop) : Out S w w' := h.mono fun _ _ f => f.elim
theorem Out.toBelow {S : Nat → Prop} {w w' : World} (h : Out S w w') {B : Nat} (hB : B ≤ w.heap.size) (hs : ∀ k, k < B → ¬ S k) : Below B w w' :=
  ⟨h.os, h.tape, h.output, h.size, fun k hk => h.block k (Nat.lt_of_lt_of_le hk hB) (hs k hk)⟩
theorem Ext.below {w w' : World} (h : Ext w w') : Below w.heap.size w w' := h.toBelow (Nat.le_refl _) fun _ _ f => f
theorem Ext.ofBelow {w w' : World} (h : Below w.heap.size w w') : Ext w w' := ⟨h.os, h.tape, h.output, h.size, fun k hk _ => h.block k hk⟩
theorem Out.ofBelow {B : Nat} {w w' : World} (h : Below B w w') : Out (fun k => B ≤ k) w w' := ⟨h.os, h.tape, h.output, h.size, fun k _ hn => h.block k (by omega)⟩
theorem Out.alloc {S : Nat → Prop} {a w : World} (h : Out S a w) (o : Obj) : Out S a (w.alloc o) :=
  h.then (S := S) (T := fun _ => False) ⟨rfl, rfl, rfl, by simp, fun k hk _ => Below.heap_alloc _ _ _ hk⟩ fun _ _ f => f.elim
theorem Out.drew {S : Nat → Prop} {a w : World} (h : Out S a w) : Out S a w.drew := ⟨h.os, h.tape, h.output, h.size, h.block⟩
theorem Out.drewN {S : Nat → Prop} {a w : World} (h : Out S a w) (n : Nat) : Out S a (w.drewN n) := ⟨h.os, h.tape, h.output, h.size, h.block⟩
theorem Out.setCell {S : Nat → Prop} {a w : World} (h : Out S a w) {p : Addr} (hp : p.block < a.heap.size → S p.block) (u : Value) : Out S a (w.setCell p u) :=
  h.then (T := fun k => k = p.block) ⟨rfl, rfl, rfl, by simp [World.setCell], fun k _ hn => Below.heap_setCell _ _ _ _ hn⟩ fun i hi e => by subst e; exact hp hi
theorem Out.grown {S : Nat → Prop} {a w w' : World} {row : Option Nat} (h : Out S a w) (hg : w.grownBy w' row) (hr : ∀ k, row = some k → k < a.heap.size → S k) : Out S a w' :=
  h.then (T := fun k => some k = row) ⟨hg.os, hg.tape, hg.output, hg.size, fun k hk hn => hg.block k hk hn⟩ fun i hi e => hr i e.symm hi

theorem Out.cell {S : Nat → Prop} {w w' : World} (h : Out S w w') {p : Addr} {v : Value} (hc : w.cell? p = some v) (hs : ¬ S p.block) : w'.cell? p = some v :=
  (World.cell?_of_block (h.block _ (World.block_lt_of_cell? w p hc) hs)).trans hc

/-- A block is still there as it was. -/
theorem Out.blk {S : Nat → Prop} {w w' : World} (h : Out S w w') {g : Nat} {o : Obj} (hb : w.heap[g]? = some o) (hs : ¬ S g) : w'.heap[g]? = some o :=
  (h.block g (Array.getElem?_eq_some_iff.1 hb).1 hs).trans hb
theorem blk_cell {w : World} {g : Nat} {cs : Array Value} {t : TypeId} (h : w.heap[g]? = some (.cells cs t)) (i : Nat) : w.cell? ⟨g, i, none⟩ = cs[i]? := cell_of_row w g i cs t (0, 0) h
theorem blk_free {w : World} {g : Nat} {cs : Array Value} {t : TypeId} (h : w.heap[g]? = some (.cells cs t)) (i : Nat) : w.frozen? ⟨g, i, none⟩ = false := by simp [World.frozen?, h]
theorem blk_lt {w : World} {g : Nat} {o : Obj} (h : w.heap[g]? = some o) : g < w.heap.size := (Array.getElem?_eq_some_iff.1 h).1
theorem blk_new (w : World) (o : Obj) : (w.alloc o).heap[w.heap.size]? = some o := heap_alloc_new w o
theorem blk_alloc {w : World} {g : Nat} {o : Obj} (h : w.heap[g]? = some o) (o' : Obj) : (w.alloc o').heap[g]? = some o := (Below.heap_alloc w o' g (blk_lt h)).trans h
theorem cells1 {w : World} {g : Nat} {a : Value} {t : TypeId} (h : w.heap[g]? = some (.cells #[a] t)) : w.cell? ⟨g, 0, none⟩ = some a ∧ (∀ i, w.frozen? ⟨g, i, none⟩ = false) :=
  ⟨blk_cell h 0, blk_free h⟩
theorem cells2 {w : World} {g : Nat} {a b : Value} {t : TypeId} (h : w.heap[g]? = some (.cells #[a, b] t)) : w.cell? ⟨g, 0, none⟩ = some a ∧ w.cell? ⟨g, 1, none⟩ = some b ∧ (∀ i, w.frozen? ⟨g, i, none⟩ = false) :=
  ⟨blk_cell h 0, blk_cell h 1, blk_free h⟩
theorem cells3 {w : World} {g : Nat} {a b c : Value} {t : TypeId} (h : w.heap[g]? = some (.cells #[a, b, c] t)) : w.cell? ⟨g, 0, none⟩ = some a ∧ w.cell? ⟨g, 1, none⟩ = some b ∧ w.cell? ⟨g, 2, none⟩ = some c ∧ (∀ i, w.frozen? ⟨g, i, none⟩ = false) :=
  ⟨blk_cell h 0, blk_cell h 1, blk_cell h 2, blk_free h⟩
theorem cells4 {w : World} {g : Nat} {a b c d : Value} {t : TypeId} (h : w.heap[g]? = some (.cells #[a, b, c, d] t)) :
    w.cell? ⟨g, 0, none⟩ = some a ∧ w.cell? ⟨g, 1, none⟩ = some b ∧ w.cell? ⟨g, 2, none⟩ = some c ∧ w.cell? ⟨g, 3, none⟩ = some d ∧ (∀ i, w.frozen? ⟨g, i, none⟩ = false) :=
  ⟨blk_cell h 0, blk_cell h 1, blk_cell h 2, blk_cell h 3, blk_free h⟩
theorem cells5 {w : World} {g : Nat} {a b c d e : Value} {t : TypeId} (h : w.heap[g]? = some (.cells #[a, b, c, d, e] t)) :
    w.cell? ⟨g, 0, none⟩ = some a ∧ w.cell? ⟨g, 1, none⟩ = some b ∧ w.cell? ⟨g, 2, none⟩ = some c ∧ w.cell? ⟨g, 3, none⟩ = some d ∧ w.cell? ⟨g, 4, none⟩ = some e ∧ (∀ i, w.frozen? ⟨g, i, none⟩ = false) :=
  ⟨blk_cell h 0, blk_cell h 1, blk_cell h 2, blk_cell h 3, blk_cell h 4, blk_free h⟩

theorem blk_set {w : World} {g : Nat} {cs : Array Value} {t : TypeId} (h : w.heap[g]? = some (.cells cs t)) (i : Nat) (u : Value) : (w.setCell ⟨g, i, none⟩ u).heap[g]? = some (.cells (cs.setIfInBounds i u) t) := by
  simp [World.setCell, Array.getElem?_modify, h]
theorem blk_far {w : World} {g : Nat} {o : Obj} (h : w.heap[g]? = some o) {p : Addr} (hp : g ≠ p.block) (u : Value) : (w.setCell p u).heap[g]? = some o := (Below.heap_setCell w p u g hp).trans h
theorem blk_set4 {w : World} {g : Nat} {a b c d : Value} {t : TypeId} (h : w.heap[g]? = some (.cells #[a, b, c, d] t)) (x y z u : Value) :
    ((((w.setCell ⟨g, 0, none⟩ x).setCell ⟨g, 1, none⟩ y).setCell ⟨g, 2, none⟩ z).setCell ⟨g, 3, none⟩ u).heap[g]? = some (.cells #[x, y, z, u] t) := by
  have := blk_set (blk_set (blk_set (blk_set h 0 x) 1 y) 2 z) 3 u
  simpa using this
theorem blk_set3 {w : World} {g : Nat} {a b c : Value} {t : TypeId} (h : w.heap[g]? = some (.cells #[a, b, c] t)) (x y z : Value) :
    (((w.setCell ⟨g, 0, none⟩ x).setCell ⟨g, 1, none⟩ y).setCell ⟨g, 2, none⟩ z).heap[g]? = some (.cells #[x, y, z] t) := by
  have := blk_set (blk_set (blk_set h 0 x) 1 y) 2 z
  simpa using this
theorem out_set4 {S : Nat → Prop} {w w' : World} (h : Out S w w') {g : Nat} (hg : g < w.heap.size → S g) (x y z u : Value) :
    Out S w ((((w'.setCell ⟨g, 0, none⟩ x).setCell ⟨g, 1, none⟩ y).setCell ⟨g, 2, none⟩ z).setCell ⟨g, 3, none⟩ u) := (((h.setCell hg x).setCell hg y).setCell hg z).setCell hg u
theorem out_set3 {S : Nat → Prop} {w w' : World} (h : Out S w w') {g : Nat} (hg : g < w.heap.size → S g) (x y z : Value) :
    Out S w (((w'.setCell ⟨g, 0, none⟩ x).setCell ⟨g, 1, none⟩ y).setCell ⟨g, 2, none⟩ z) := ((h.setCell hg x).setCell hg y).setCell hg z

/-- What the walk wants behind a step that keeps all that was there. -/
theorem Out.old {w w' : World} (h : Ext w w') : (∀ b o, b < w.heap.size → w'.cell? ⟨b, o, none⟩ = w.cell? ⟨b, o, none⟩) ∧ (∀ b o, b < w.heap.size → w'.frozen? ⟨b, o, none⟩ = w.frozen? ⟨b, o, none⟩) :=
  ⟨fun b o hb => World.cell?_of_block (w := w) (a := ⟨b, o, none⟩) (h.block b hb fun f => f), fun b o hb => World.frozen?_of_block (w := w) (a := ⟨b, o, none⟩) (h.block b hb fun f => f)⟩

/-- The cells from off on in block b are xs. -/
def At (w : World) (b off : Nat) (xs : List Value) : Prop :=
  (∀ i v, xs[i]? = some v → w.cell? ⟨b, off + i, none⟩ = some v) ∧ (∀ i, i < xs.length → w.frozen? ⟨b, off + i, none⟩ = false)
theorem At.cell {w : World} {b off : Nat} {xs : List Value} (h : At w b off xs) : ∀ i v, xs[i]? = some v → w.cell? ⟨b, off + i, none⟩ = some v := h.1
theorem At.free {w : World} {b off : Nat} {xs : List Value} (h : At w b off xs) : ∀ i, i < xs.length → w.frozen? ⟨b, off + i, none⟩ = false := h.2

instance {w : World} {b off : Nat} {xs : List Value} : CoeFun (At w b off xs) fun _ => ∀ i v, xs[i]? = some v → w.cell? ⟨b, off + i, none⟩ = some v := ⟨At.cell⟩

theorem At.frame {w w' : World} {b off : Nat} {xs : List Value} (h : At w b off xs) (hb : b < w.heap.size → w'.heap[b]? = w.heap[b]?) : At w' b off xs :=
  ⟨fun i v hi => by
    have hc := h.cell i v hi
    exact (World.cell?_of_block (w := w) (a := ⟨b, off + i, none⟩) (hb (World.block_lt_of_cell? w _ hc))).trans hc,
  fun i hi => by
    have hc := h.cell i _ (List.getElem?_eq_getElem hi)
    exact (World.frozen?_of_block (w := w) (a := ⟨b, off + i, none⟩) (hb (World.block_lt_of_cell? w _ hc))).trans (h.free i hi)⟩
theorem At.lt {w : World} {b off : Nat} {xs : List Value} (h : At w b off xs) (hx : 0 < xs.length) : b < w.heap.size :=
  World.block_lt_of_cell? w _ (h.cell 0 xs[0] (List.getElem?_eq_getElem hx))

/-- The most elements that a slice may have, where nothing else is said. -/
def big : Nat := 140737488355328

/-- How an element of type α is written in cells; the blocks that its reading leans on lie in F. -/
structure Codec (α : Type) where
  size : Nat
  rep : World → (Nat → Prop) → List Value → α → Prop
  len : ∀ {w F cs a}, rep w F cs a → cs.length = size
  one : ∀ {w F cs a}, rep w F cs a → ∀ u ∈ cs, u.oneCell' = true
  frame : ∀ {w w' F cs a}, rep w F cs a → (∀ b, F b → b < w.heap.size → w'.heap[b]? = w.heap[b]?) → rep w' F cs a
  mono : ∀ {w F G cs a}, rep w F cs a → (∀ b, F b → b < w.heap.size → G b) → rep w G cs a
  bound : Nat := big
  bpos : 1 ≤ bound := by decide

variable {α : Type}

/-- v is a slice value that reads as l. -/
def Sl (c : Codec α) (w : World) (F : Nat → Prop) (v : Value) (l : List α) : Prop :=
  ∃ A cap, v = .slice A l.length cap ∧ l.length ≤ cap ∧ cap ≤ maxLen ∧ l.length ≤ c.bound ∧ (A = none → cap = 0) ∧
    ∀ i (h : i < l.length), ∃ b off cs, A = some ⟨b, off, none⟩ ∧ F b ∧ At w b (off + i * c.size) cs ∧ c.rep w F cs l[i]

theorem Sl.frame {c : Codec α} {w w' : World} {F : Nat → Prop} {v : Value} {l : List α} (h : Sl c w F v l) (hF : ∀ b, F b → b < w.heap.size → w'.heap[b]? = w.heap[b]?) : Sl c w' F v l := by
  obtain ⟨A, cap, hv, h1, h2, h3, h4, h5⟩ := h
  refine ⟨A, cap, hv, h1, h2, h3, h4, fun i hi => ?_⟩
  obtain ⟨b, off, cs, hA, hb, hat, hr⟩ := h5 i hi
  exact ⟨b, off, cs, hA, hb, hat.frame (hF b hb), c.frame hr hF⟩
theorem Sl.mono {c : Codec α} {w : World} {F G : Nat → Prop} {v : Value} {l : List α} (h : Sl c w F v l) (hF : ∀ b, F b → b < w.heap.size → G b) (hs : 0 < c.size ∨ (∀ b, F b → G b)) : Sl c w G v l := by
  obtain ⟨A, cap, hv, h1, h2, h3, h4, h5⟩ := h
  refine ⟨A, cap, hv, h1, h2, h3, h4, fun i hi => ?_⟩
  obtain ⟨b, off, cs, hA, hb, hat, hr⟩ := h5 i hi
  refine ⟨b, off, cs, hA, ?_, hat, c.mono hr hF⟩
  rcases hs with hs | hs
  · exact hF b hb (hat.lt (by rw [c.len hr]; exact hs))
  · exact hs b hb
/-- What lies in F, of which S holds nothing, is still there. -/
theorem Sl.out {c : Codec α} {w w' : World} {S F : Nat → Prop} {v : Value} {l : List α} (h : Sl c w F v l) (ho : Out S w w') (hd : ∀ b, b < w.heap.size → F b → ¬ S b) : Sl c w' F v l :=
  h.frame fun b hb hlt => ho.block b hlt (hd b hlt hb)
theorem Sl.ext {c : Codec α} {w w' : World} {F : Nat → Prop} {v : Value} {l : List α} (h : Sl c w F v l) (ho : Ext w w') : Sl c w' F v l := h.out ho fun _ _ _ f => f

theorem Codec.out {c : Codec α} {w w' : World} {S F : Nat → Prop} {cs : List Value} {a : α} (h : c.rep w F cs a) (ho : Out S w w') (hd : ∀ b, b < w.heap.size → F b → ¬ S b) : c.rep w' F cs a :=
  c.frame h fun b hb hlt => ho.block b hlt (hd b hlt hb)
theorem Codec.ext {c : Codec α} {w w' : World} {F : Nat → Prop} {cs : List Value} {a : α} (h : c.rep w F cs a) (ho : Ext w w') : c.rep w' F cs a := c.out h ho fun _ _ _ f => f

theorem Sl.nil (c : Codec α) (w : World) (F : Nat → Prop) : Sl c w F (.slice none 0 0) [] := ⟨none, 0, rfl, Nat.le_refl _, by simp, Nat.zero_le _, fun _ => rfl, fun i h => absurd h (by simp)⟩

theorem Sl.drew {c : Codec α} {w : World} {F : Nat → Prop} {v : Value} {l : List α} (h : Sl c w F v l) : Sl c w.drew F v l := h.frame fun _ _ _ => rfl
theorem Sl.alloc {c : Codec α} {w : World} {F : Nat → Prop} {v : Value} {l : List α} (h : Sl c w F v l) (o : Obj) : Sl c (w.alloc o) F v l := h.ext ((Out.refl _ w).alloc o)
theorem Ext.alloc1 (w : World) (o : Obj) : Ext w (w.alloc o) := (Out.refl _ w).alloc o

/-- The value written out. -/
theorem Sl.form {c : Codec α} {w : World} {F : Nat → Prop} {v : Value} {l : List α} (h : Sl c w F v l) : ∃ A cap, v = .slice A l.length cap ∧ l.length ≤ cap ∧ cap ≤ maxLen ∧ l.length ≤ c.bound ∧ (A = none → cap = 0) :=
  let ⟨A, cap, hv, h1, h2, h3, h4, _⟩ := h; ⟨A, cap, hv, h1, h2, h3, h4⟩

/-- Element i of a slice written out. -/
theorem Sl.get {c : Codec α} {w : World} {F : Nat → Prop} {A : Option Addr} {n cap : Nat} {l : List α} (h : Sl c w F (.slice A n cap) l) (i : Nat) (hi : i < l.length) :
    ∃ b off cs, A = some ⟨b, off, none⟩ ∧ F b ∧ At w b (off + i * c.size) cs ∧ c.rep w F cs l[i] := by
  obtain ⟨A', cap', hv, _, _, _, _, h5⟩ := h
  injection hv with e1 e2 e3
  subst e1
  exact h5 i hi

/-! ### the codecs -/
abbrev byteV (b : UInt8) : Value := .int .u8 (b.toNat : Int)
abbrev u64V (n : UInt64) : Value := .int .u64 (n.toNat : Int)

def byteC : Codec UInt8 where
  size := 1
  rep _ _ cs a := cs = [byteV a]
  len := fun h => by rw [h]; rfl
  one := fun h u hu => by rw [h] at hu; simp at hu; subst hu; rfl
  frame := fun h _ => h
  mono := fun h _ => h

/-- A byte slice. -/
abbrev Bs (w : World) (F : Nat → Prop) (v : Value) (l : List UInt8) : Prop := Sl byteC w F v l

/-- Bytes, however many: an argument's. -/
def byteCA : Codec UInt8 := { byteC with bound := maxLen, bpos := by decide }
abbrev BsA (w : World) (F : Nat → Prop) (v : Value) (l : List UInt8) : Prop := Sl byteCA w F v l
theorem Sl.toA {w : World} {F : Nat → Prop} {v : Value} {l : List UInt8} (h : Bs w F v l) : BsA w F v l :=
  let ⟨A, cap, hv, h1, h2, _, h4, h5⟩ := h; ⟨A, cap, hv, h1, h2, Nat.le_trans h1 h2, h4, h5⟩
theorem Sl.ofA {w : World} {F : Nat → Prop} {v : Value} {l : List UInt8} (h : BsA w F v l) (hl : l.length ≤ big) : Bs w F v l :=
  let ⟨A, cap, hv, h1, h2, _, h4, h5⟩ := h; ⟨A, cap, hv, h1, h2, hl, h4, h5⟩

structure Key where
  user : List UInt8
  seq : UInt64
  kind : UInt8
  deriving DecidableEq, Inhabited

structure Ent where
  key : Key
  value : List UInt8
  deriving DecidableEq, Inhabited

def keyC : Codec Key where
  size := 3
  rep w F cs k := ∃ u, cs = [u, u64V k.seq, byteV k.kind] ∧ Bs w F u k.user
  len := fun ⟨_, h, _⟩ => by rw [h]; rfl
  one := fun ⟨u, h, hb⟩ x hx => by
    rw [h] at hx; obtain ⟨A, cap, rfl, _⟩ := hb.form
    simp only [List.mem_cons, List.not_mem_nil, or_false] at hx
    rcases hx with rfl | rfl | rfl <;> rfl
  frame := fun ⟨u, h, hb⟩ hF => ⟨u, h, hb.frame hF⟩
  mono := fun ⟨u, h, hb⟩ hF => ⟨u, h, hb.mono hF (.inl (by decide))⟩

def entC : Codec Ent where
  size := 4
  rep w F cs e := ∃ u v, cs = [u, u64V e.key.seq, byteV e.key.kind, v] ∧ Bs w F u e.key.user ∧ Bs w F v e.value
  len := fun ⟨_, _, h, _⟩ => by rw [h]; rfl
  one := fun ⟨u, v, h, hb, hc⟩ x hx => by
    rw [h] at hx; obtain ⟨A, cap, rfl, _⟩ := hb.form; obtain ⟨A', cap', rfl, _⟩ := hc.form
    simp only [List.mem_cons, List.not_mem_nil, or_false] at hx
    rcases hx with rfl | rfl | rfl | rfl <;> rfl
  frame := fun ⟨u, v, h, hb, hc⟩ hF => ⟨u, v, h, hb.frame hF, hc.frame hF⟩
  mono := fun ⟨u, v, h, hb, hc⟩ hF => ⟨u, v, h, hb.mono hF (.inl (by decide)), hc.mono hF (.inl (by decide))⟩

/-- The same of an argument: the slices within may be as long as they like. -/
def keyCA : Codec Key where
  size := 3
  rep w F cs k := ∃ u, cs = [u, u64V k.seq, byteV k.kind] ∧ BsA w F u k.user
  len := fun ⟨_, h, _⟩ => by rw [h]; rfl
  one := fun ⟨u, h, hb⟩ x hx => by
    rw [h] at hx; obtain ⟨A, cap, rfl, _⟩ := hb.form
    simp only [List.mem_cons, List.not_mem_nil, or_false] at hx
    rcases hx with rfl | rfl | rfl <;> rfl
  frame := fun ⟨u, h, hb⟩ hF => ⟨u, h, hb.frame hF⟩
  mono := fun ⟨u, h, hb⟩ hF => ⟨u, h, hb.mono hF (.inl (by decide))⟩
  bound := maxLen
  bpos := by decide
def entCA : Codec Ent where
  size := 4
  rep w F cs e := ∃ u v, cs = [u, u64V e.key.seq, byteV e.key.kind, v] ∧ BsA w F u e.key.user ∧ BsA w F v e.value
  len := fun ⟨_, _, h, _⟩ => by rw [h]; rfl
  one := fun ⟨u, v, h, hb, hc⟩ x hx => by
    rw [h] at hx; obtain ⟨A, cap, rfl, _⟩ := hb.form; obtain ⟨A', cap', rfl, _⟩ := hc.form
    simp only [List.mem_cons, List.not_mem_nil, or_false] at hx
    rcases hx with rfl | rfl | rfl | rfl <;> rfl
  frame := fun ⟨u, v, h, hb, hc⟩ hF => ⟨u, v, h, hb.frame hF, hc.frame hF⟩
  mono := fun ⟨u, v, h, hb, hc⟩ hF => ⟨u, v, h, hb.mono hF (.inl (by decide)), hc.mono hF (.inl (by decide))⟩
  bound := maxLen
  bpos := by decide
theorem Sl.entA {w : World} {F : Nat → Prop} {v : Value} {l : List Ent} (h : Sl entC w F v l) : Sl entCA w F v l := by
  obtain ⟨A, cap, hv, h1, h2, _, h4, h5⟩ := h
  refine ⟨A, cap, hv, h1, h2, Nat.le_trans h1 h2, h4, fun i hi => ?_⟩
  obtain ⟨b, off, cs, hA, hF, hat, x, y, hc, g1, g2⟩ := h5 i hi
  exact ⟨b, off, cs, hA, hF, hat, x, y, hc, g1.toA, g2.toA⟩

/-- A slice as an element. -/
def slC (c : Codec α) (hs : 0 < c.size) : Codec (List α) where
  size := 1
  rep w F cs l := ∃ v, cs = [v] ∧ Sl c w F v l
  len := fun ⟨_, h, _⟩ => by rw [h]; rfl
  one := fun ⟨u, h, hb⟩ x hx => by
    rw [h] at hx; obtain ⟨A, cap, rfl, _⟩ := hb.form
    simp only [List.mem_cons, List.not_mem_nil, or_false] at hx
    subst hx; rfl
  frame := fun ⟨v, h, hb⟩ hF => ⟨v, h, hb.frame hF⟩
  mono := fun ⟨v, h, hb⟩ hF => ⟨v, h, hb.mono hF (.inl hs)⟩

def intC : Codec Int where
  size := 1
  rep _ _ cs a := cs = [.int .i64 a] ∧ -9223372036854775808 ≤ a ∧ a ≤ 9223372036854775807
  len := fun h => by rw [h.1]; rfl
  one := fun h u hu => by rw [h.1] at hu; simp at hu; subst hu; rfl
  frame := fun h _ => h
  mono := fun h _ => h

def u64C : Codec UInt64 where
  size := 1
  rep _ _ cs a := cs = [u64V a]
  len := fun h => by rw [h]; rfl
  one := fun h u hu => by rw [h] at hu; simp at hu; subst hu; rfl
  frame := fun h _ => h
  mono := fun h _ => h

/-! ### a slice that the call owns: its row may be appended to -/
/-- v owns its row (block from B on, of element type e, cells of size c.size), its elements read as l; what they lean on lies in F and is not the row. -/
def Own (c : Codec α) (e : TypeId) (w : World) (B : Nat) (F : Nat → Prop) (v : Value) (l : List α) : Prop :=
  ∃ xs, w.ownsRow B e c.size v l.length xs ∧ ∀ i (h : i < l.length), ∃ cs, (∀ j, j < c.size → xs[i * c.size + j]? = cs[j]?) ∧ c.rep w (fun b => F b ∧ v.ownBlock ≠ some b) cs l[i]

theorem Own.nil (c : Codec α) (e : TypeId) (w : World) (B : Nat) (F : Nat → Prop) : Own c e w B F (.slice none 0 0) [] :=
  ⟨[], World.ownsRow_nil w B e c.size, fun i h => absurd h (by simp)⟩

theorem Own.sl {c : Codec α} {e : TypeId} {w : World} {B : Nat} {F : Nat → Prop} {v : Value} {l : List α} (h : Own c e w B F v l) (_hs : 0 < c.size) (hl : l.length ≤ c.bound) {G : Nat → Prop} (hF : ∀ b, F b → b < w.heap.size → G b) (hB : ∀ b, B ≤ b → b < w.heap.size → G b) : Sl c w G v l := by
  obtain ⟨xs, ho, he⟩ := h
  rcases ho.2 with ⟨rfl, h0⟩ | ⟨g, cap, cur, rfl, hb, hg, hnc, hcm, hcs, htake⟩
  · have : l = [] := List.eq_nil_of_length_eq_zero h0
    subst this
    exact Sl.nil _ _ _
  · have hlt : g < w.heap.size := (Array.getElem?_eq_some_iff.1 hg).1
    refine ⟨_, cap, rfl, hnc, hcm, hl, (fun h => by cases h), fun i hi => ?_⟩
    obtain ⟨cs, hc, hr⟩ := he i hi
    refine ⟨g, 0, cs, rfl, hB g hb hlt, ⟨fun j u hu => ?_, fun j _ => blk_free hg _⟩, c.mono hr fun b hb hlt => hF b hb.1 hlt⟩
    have hj : j < c.size := by
      have := (List.getElem?_eq_some_iff.1 hu).1
      rwa [c.len hr] at this
    rw [cell_of_row w g _ cur e (0, 0) hg]
    have h2 := hc j hj
    rw [← htake, List.getElem?_take, hu] at h2
    split at h2
    · simpa [Nat.add_assoc] using h2
    · cases h2

theorem Own.frame {c : Codec α} {e : TypeId} {w w' : World} {B : Nat} {S F : Nat → Prop} {v : Value} {l : List α} (h : Own c e w B F v l) (ho : Out S w w')
    (hr : ∀ b, b < w.heap.size → B ≤ b → v.ownBlock = some b → ¬ S b) (hF : ∀ b, b < w.heap.size → F b → v.ownBlock ≠ some b → ¬ S b) : Own c e w' B F v l := by
  obtain ⟨xs, ho', he⟩ := h
  refine ⟨xs, ⟨ho'.1, ?_⟩, fun i hi => ?_⟩
  · rcases ho'.2 with hn | ⟨g, cap, cur, rfl, hb, hg, hnc, hcm, hcs, htake⟩
    · exact .inl hn
    · have hlt : g < w.heap.size := (Array.getElem?_eq_some_iff.1 hg).1
      exact .inr ⟨g, cap, cur, rfl, hb, by rw [ho.block g hlt (hr g hlt hb rfl)]; exact hg, hnc, hcm, hcs, htake⟩
  · obtain ⟨cs, hc, hrp⟩ := he i hi
    exact ⟨cs, hc, c.frame hrp fun b hb hlt => ho.block b hlt (hF b hlt hb.1 hb.2)⟩
theorem Own.ext {c : Codec α} {e : TypeId} {w w' : World} {B : Nat} {F : Nat → Prop} {v : Value} {l : List α} (h : Own c e w B F v l) (ho : Ext w w') : Own c e w' B F v l :=
  h.frame ho (fun _ _ _ _ f => f) (fun _ _ _ _ f => f)
theorem Own.mono {c : Codec α} {e : TypeId} {w : World} {B : Nat} {F G : Nat → Prop} {v : Value} {l : List α} (h : Own c e w B F v l) (hF : ∀ b, F b → b < w.heap.size → G b) : Own c e w B G v l := by
  obtain ⟨xs, ho, he⟩ := h
  refine ⟨xs, ho, fun i hi => ?_⟩
  obtain ⟨cs, hc, hr⟩ := he i hi
  exact ⟨cs, hc, c.mono hr fun b hb hlt => ⟨hF b hb.1 hlt, hb.2⟩⟩
theorem Own.lt {c : Codec α} {e : TypeId} {w : World} {B : Nat} {F : Nat → Prop} {v : Value} {l : List α} (h : Own c e w B F v l) : ∀ k, v.ownBlock = some k → B ≤ k ∧ k < w.heap.size :=
  let ⟨_, ho, _⟩ := h; ho.lt
theorem Own.form {c : Codec α} {e : TypeId} {w : World} {B : Nat} {F : Nat → Prop} {v : Value} {l : List α} (h : Own c e w B F v l) : ∃ A cap, v = .slice A l.length cap ∧ l.length ≤ cap := by
  obtain ⟨xs, ho, _⟩ := h
  rcases ho.2 with ⟨rfl, h0⟩ | ⟨g, cap, cur, rfl, hb, hg, hnc, hcm, hcs, htake⟩
  · exact ⟨none, 0, by rw [h0], by omega⟩
  · exact ⟨_, cap, rfl, hnc⟩

/-- How the element type's row of the table fits a codec. -/
structure Fits (P : Program) (t e : TypeId) (size bytes : Nat) : Prop where
  under : P.underlying t = some (.slice e)
  pos : 0 < size
  info : ∃ (i : TypeInfo) (z : Value), P.info? e = some i ∧ i.zero = some z ∧ i.size = size ∧ i.bytes = bytes ∧ z.cells.size = size

theorem fits_of {P : Program} {t e size bytes : Nat} {z : Value} (h : P.underlying t = some (.slice e)) (hp : 0 < size) (hi : (P.info? e).map (fun i => (i.zero, i.size, i.bytes)) = some (some z, size, bytes)) (hz : z.cells.size = size) : Fits P t e size bytes := by
  refine ⟨h, hp, ?_⟩
  cases hh : P.info? e with
  | none => rw [hh] at hi; cases hi
  | some i =>
    rw [hh] at hi
    simp only [Option.map_some, Option.some.injEq, Prod.mk.injEq] at hi
    exact ⟨i, z, rfl, hi.1, hi.2.1, hi.2.2, hz⟩

/-- append of m elements that lie in cells one behind the other. -/
theorem run_append_cells {P : Program} {w : World} {c : Codec α} {t ty e : TypeId} {bytes : Nat} (hf : Fits P t e c.size bytes) {B : Nat} {F : Nat → Prop} {v : Value} {l m : List α}
    (hown : Own c e w B F v l) (hB : B ≤ w.heap.size) (ad : Addr) (cap : Nat) (news : List Value) (hl : news.length = m.length * c.size) (hnews : ∀ j u, news[j]? = some u → w.cell? (ad.add j) = some u)
    (h1 : ∀ u ∈ news, u.oneCell' = true)
    (hrep : ∀ i (h : i < m.length), ∃ cs, (∀ j, j < c.size → news[i * c.size + j]? = cs[j]?) ∧ c.rep w (fun b => F b ∧ v.ownBlock ≠ some b) cs m[i])
    (h63 : (l.length + m.length) * bytes ≤ 140737488355328) (hbp : 0 < bytes) :
    ∃ v' w', (Builtin.append_ #[t, t] ty #[v, .slice (some ad) m.length cap]).run P w = .ok v' w' ∧ Own c e w' B F v' (l ++ m) ∧ w.grownBy w' v.ownBlock ∧ (v'.ownBlock = v.ownBlock ∨ v'.ownBlock = some w.heap.size) := by
  obtain ⟨i, z, hi, hz, hsize, hby, hzs⟩ := hf.info
  obtain ⟨xs, ho, he⟩ := hown
  have hn : l.length + m.length ≤ 140737488355328 := Nat.le_trans (Nat.le_mul_of_pos_right _ hbp) h63
  obtain ⟨v', w', hrun, ho', hg, _, hat⟩ := run_append_own_at (P := P) w B t ty e i z c.size bytes hf.under hi hz hsize hby hzs hf.pos v l.length xs ho ad m.length cap news hl hnews h1 (by unfold maxLen; omega) h63 hB
  refine ⟨v', w', hrun, ⟨xs ++ news, by rw [List.length_append]; exact ho', fun k hk => ?_⟩, hg, hat⟩
  have keep : ∀ {cs : List Value} {a : α}, c.rep w (fun b => F b ∧ v.ownBlock ≠ some b) cs a → c.rep w' (fun b => F b ∧ v'.ownBlock ≠ some b) cs a := by
    intro cs a hr
    have h2 : c.rep w (fun b => F b ∧ v'.ownBlock ≠ some b) cs a := c.mono hr fun b hb hlt => ⟨hb.1, by
      rcases hat with h | h
      · rw [h]; exact hb.2
      · rw [h]; intro e; injection e with e; omega⟩
    have h3 : c.rep w (fun b => (F b ∧ v'.ownBlock ≠ some b) ∧ v.ownBlock ≠ some b) cs a := c.mono hr fun b hb hlt => ⟨⟨hb.1, by
      rcases hat with h | h
      · rw [h]; exact hb.2
      · rw [h]; intro e; injection e with e; omega⟩, hb.2⟩
    have h4 := c.frame (w' := w') h3 fun b hb hlt => hg.block b hlt (fun e => hb.2 e.symm)
    have hlt' : ∀ b, b < w.heap.size → b < w'.heap.size := fun b hb => Nat.lt_of_lt_of_le hb hg.size
    exact c.mono h4 fun b hb _ => hb.1
  have hxl : xs.length = l.length * c.size := ho.1
  by_cases hkl : k < l.length
  · obtain ⟨cs, hc, hr⟩ := he k hkl
    refine ⟨cs, fun j hj => ?_, by rw [List.getElem_append_left hkl]; exact keep hr⟩
    rw [List.getElem?_append_left (by rw [hxl]; calc k * c.size + j < k * c.size + c.size := by omega
      _ = (k + 1) * c.size := by rw [Nat.add_mul, Nat.one_mul]
      _ ≤ l.length * c.size := Nat.mul_le_mul_right _ hkl)]
    exact hc j hj
  · have hk2 : k - l.length < m.length := by rw [List.length_append] at hk; omega
    obtain ⟨cs, hc, hr⟩ := hrep (k - l.length) hk2
    refine ⟨cs, fun j hj => ?_, by rw [List.getElem_append_right (by omega)]; exact keep hr⟩
    have hge : l.length * c.size ≤ k * c.size := Nat.mul_le_mul_right _ (by omega)
    rw [List.getElem?_append_right (by rw [hxl]; omega), hxl, ← hc j hj]
    congr 1
    rw [Nat.sub_mul]; omega

/-- All cells of a slice, one behind the other. -/
theorem Sl.flat {c : Codec α} {w : World} {F : Nat → Prop} {A : Option Addr} {n cap : Nat} {l : List α} (h : Sl c w F (.slice A n cap) l) :
    ∃ news : List Value, news.length = l.length * c.size ∧ (∀ j u, news[j]? = some u → ∃ ad, A = some ad ∧ w.cell? (ad.add j) = some u) ∧ (∀ u ∈ news, u.oneCell' = true) ∧
      ∀ i (h : i < l.length), ∃ cs, (∀ j, j < c.size → news[i * c.size + j]? = cs[j]?) ∧ c.rep w F cs l[i] := by
  obtain ⟨A', cap', hv, _, _, _, _, h5⟩ := h
  injection hv with e1 _ _
  subst e1
  -- by induction on how many elements
  have key : ∀ k, k ≤ l.length → ∃ news : List Value, news.length = k * c.size ∧ (∀ j u, news[j]? = some u → ∃ ad, A = some ad ∧ w.cell? (ad.add j) = some u) ∧ (∀ u ∈ news, u.oneCell' = true) ∧
      ∀ i (h : i < l.length), i < k → ∃ cs, (∀ j, j < c.size → news[i * c.size + j]? = cs[j]?) ∧ c.rep w F cs l[i] := by
    intro k
    induction k with
    | zero => exact fun _ => ⟨[], by simp, fun j u h => by simp at h, fun u h => by simp at h, fun i _ h => absurd h (by omega)⟩
    | succ k ih =>
      intro hk
      obtain ⟨news, hn, hc, h1, hr⟩ := ih (by omega)
      obtain ⟨b, off, cs, hA, hF, hat, hrep⟩ := h5 k (by omega)
      have hcl := c.len hrep
      refine ⟨news ++ cs, by rw [List.length_append, hn, hcl, Nat.add_mul, Nat.one_mul], fun j u hu => ?_, fun u hu => ?_, fun i hi hik => ?_⟩
      · rcases Nat.lt_or_ge j news.length with hj | hj
        · rw [List.getElem?_append_left hj] at hu; exact hc j u hu
        · rw [List.getElem?_append_right hj] at hu
          have := hat _ _ hu
          refine ⟨_, hA, ?_⟩
          have hplain : (⟨b, off, none⟩ : Addr).add j = ⟨b, off + j, none⟩ := by unfold Addr.add; split <;> simp_all
          rw [hplain, ← this]
          congr 2; omega
      · rcases List.mem_append.1 hu with h | h
        · exact h1 u h
        · exact c.one hrep u h
      · by_cases hlt : i < k
        · obtain ⟨cs', hcs, hr'⟩ := hr i hi hlt
          refine ⟨cs', fun j hj => ?_, hr'⟩
          rw [List.getElem?_append_left (by rw [hn]; calc i * c.size + j < i * c.size + c.size := by omega
            _ = (i + 1) * c.size := by rw [Nat.add_mul, Nat.one_mul]
            _ ≤ k * c.size := Nat.mul_le_mul_right _ hlt)]
          exact hcs j hj
        · have : i = k := by omega
          subst this
          refine ⟨cs, fun j hj => ?_, hrep⟩
          rw [List.getElem?_append_right (by omega), hn]
          congr 1; omega
  obtain ⟨news, hn, hc, h1, hr⟩ := key l.length (Nat.le_refl _)
  exact ⟨news, hn, hc, h1, fun i hi => hr i hi hi⟩

/-- append(s, x...): whatever slice x is, nil too. -/
theorem run_append_sl {P : Program} {w : World} {c : Codec α} {t ty e : TypeId} {bytes : Nat} (hf : Fits P t e c.size bytes) {B : Nat} {F : Nat → Prop} {v x : Value} {l m : List α}
    (hown : Own c e w B F v l) (hB : B ≤ w.heap.size) {G : Nat → Prop} (hx : Sl c w G x m) (hG : ∀ i (h : i < m.length) cs, c.rep w G cs m[i] → c.rep w (fun b => F b ∧ v.ownBlock ≠ some b) cs m[i])
    (h63 : (l.length + m.length) * bytes ≤ 140737488355328) (hbp : 0 < bytes) :
    ∃ v' w', (Builtin.append_ #[t, t] ty #[v, x]).run P w = .ok v' w' ∧ Own c e w' B F v' (l ++ m) ∧ w.grownBy w' v.ownBlock ∧ (v'.ownBlock = v.ownBlock ∨ v'.ownBlock = some w.heap.size) := by
  obtain ⟨A, cap, rfl, hm, hcap, hbig, hnil⟩ := hx.form
  obtain ⟨news, hn, hc, h1, hr⟩ := hx.flat
  rcases A with _ | ad
  · have h0 : cap = 0 := hnil rfl
    have hm0 : m = [] := List.eq_nil_of_length_eq_zero (by omega)
    subst hm0
    obtain ⟨i, z, hi, hz, hsize, hby, hzs⟩ := hf.info
    obtain ⟨xs, ho, he⟩ := hown
    refine ⟨v, w, ?_, by simpa using ⟨xs, ho, he⟩, ⟨rfl, rfl, rfl, Nat.le_refl _, fun _ _ _ => rfl⟩, .inl rfl⟩
    rcases ho.2 with ⟨rfl, h0⟩ | ⟨g, cap, cur, rfl, hb, hg, hnc, hcm, hcs, htake⟩
    · simp [Builtin.append_, run_underlying hf.under, sizeOf, typeInfo, hi, Builtin.lenOf, Builtin.firstCells]
    · simp [Builtin.append_, run_underlying hf.under, sizeOf, typeInfo, hi, Builtin.lenOf, Builtin.firstCells, hnc, storeCells]
  · exact run_append_cells hf hown hB ad cap news hn (fun j u hu => by
      obtain ⟨ad', e, h⟩ := hc j u hu
      injection e with e; subst e; exact h) h1 (fun i hi => by
      obtain ⟨cs, h2, h3⟩ := hr i hi
      exact ⟨cs, h2, hG i hi cs h3⟩) h63 hbp

theorem Own.empty (c : Codec α) (e : TypeId) (w : World) (F : Nat → Prop) : Own c e (w.alloc (.cells #[] e)) w.heap.size F (.slice (some ⟨w.heap.size, 0, none⟩) 0 0) [] :=
  ⟨[], ⟨by simp, .inr ⟨w.heap.size, 0, #[], rfl, Nat.le_refl _, heap_alloc_new w _, Nat.le_refl _, by simp, by simp, by simp⟩⟩, fun i h => absurd h (by simp)⟩

theorem Out.ofGrown {w w' : World} {v : Value} (h : w.grownBy w' v.ownBlock) : Out (fun k => v.ownBlock = some k) w w' := ⟨h.os, h.tape, h.output, h.size, fun k hk hn => h.block k hk fun e => hn e.symm⟩

theorem wpList_append_sl {P : Program} {w : World} {ops : Array Oper} {rest : List Oper} {o : Oper} {a : Act} {Q : Exit → Act → World → Prop} (hgd : o.guard = none) (s x : Operand) (t : TypeId)
    (ho : o.op = .call { callee := .builtin .append, args := #[s, x], argTypes := #[t, t] })
    {c : Codec α} {e : TypeId} {bytes : Nat} (hf : Fits P t e c.size bytes) {B : Nat} {F : Nat → Prop} {v xv : Value} {l m : List α}
    (hown : Own c e w B F v l) (hs : a.eval s = v) (hB : B ≤ w.heap.size) {G : Nat → Prop} (hx : Sl c w G xv m) (hxv : a.eval x = xv)
    (hG : ∀ i (h : i < m.length) cs, c.rep w G cs m[i] → c.rep w (fun b => F b ∧ v.ownBlock ≠ some b) cs m[i]) (h63 : (l.length + m.length) * bytes ≤ 140737488355328) (hbp : 0 < bytes)
    (h : ∀ v' w', Own c e w' B F v' (l ++ m) → Out (fun k => v.ownBlock = some k) w w' → (v'.ownBlock = v.ownBlock ∨ v'.ownBlock = some w.heap.size) → wpList P ops Q rest (a.put o.dst v') w') :
    wpList P ops Q (o :: rest) a w := by
  refine wpList_plain hgd fun K hK => ?_
  obtain ⟨v', w', hr, h2, h3, h5⟩ := run_append_sl (P := P) (ty := o.type) hf hown hB hx hG h63 hbp
  unfold Oper.wp execOp
  simp only [ho, resolve, invoke, builtin, Sem.run_bind, Sem.run_pure, Result.andThen_ok, List.map_toArray, List.map_cons, List.map_nil, hs, hxv, hr]
  exact hK _ _ (h v' w' h2 (Out.ofGrown h3) h5)

theorem run_append_one {P : Program} {w : World} {c : Codec α} {t ty e : TypeId} {bytes : Nat} (hf : Fits P t e c.size bytes) {B : Nat} {F : Nat → Prop} {v : Value} {l : List α}
    (hown : Own c e w B F v l) (hB : B ≤ w.heap.size) {g : Nat} {cs : Array Value} {t' : TypeId} (hblk : w.heap[g]? = some (.cells cs t')) (y : α) (hrep : c.rep w (fun b => F b ∧ v.ownBlock ≠ some b) cs.toList y)
    (h63 : (l.length + 1) * bytes ≤ 140737488355328) (hbp : 0 < bytes) :
    ∃ v' w', (Builtin.append_ #[t, t] ty #[v, .slice (some ⟨g, 0, none⟩) 1 1]).run P w = .ok v' w' ∧ Own c e w' B F v' (l ++ [y]) ∧ w.grownBy w' v.ownBlock ∧ (v'.ownBlock = v.ownBlock ∨ v'.ownBlock = some w.heap.size) := by
  have hl := c.len hrep
  refine run_append_cells (m := [y]) hf hown hB ⟨g, 0, none⟩ 1 cs.toList (by simpa using hl) (fun j u hu => ?_) (c.one hrep) (fun i hi => ?_) h63 hbp
  · have hplain : (⟨g, 0, none⟩ : Addr).add j = ⟨g, j, none⟩ := by unfold Addr.add; split <;> simp_all
    rw [hplain, blk_cell hblk]
    simpa using hu
  · have hi0 : i = 0 := by simp at hi; exact hi
    subst hi0
    exact ⟨cs.toList, fun j _ => by simp, hrep⟩

/-- append(s, y): y lies in a block that is known whole. -/
theorem wp_append_one {P : Program} {w : World} {o : Oper} {a : Act} {K : Act → World → Prop} {Q : Exit → Act → World → Prop} (s x : Operand) (t : TypeId)
    (ho : o.op = .call { callee := .builtin .append, args := #[s, x], argTypes := #[t, t] })
    {c : Codec α} {e : TypeId} {bytes : Nat} (hf : Fits P t e c.size bytes) {B : Nat} {F : Nat → Prop} {v : Value} {l : List α}
    (hown : Own c e w B F v l) (hs : a.eval s = v) (hB : B ≤ w.heap.size) {g : Nat} {cs : Array Value} {t' : TypeId} (hblk : w.heap[g]? = some (.cells cs t')) (hxv : a.eval x = .slice (some ⟨g, 0, none⟩) 1 1)
    (y : α) (hrep : c.rep w (fun b => F b ∧ v.ownBlock ≠ some b) cs.toList y) (h63 : (l.length + 1) * bytes ≤ 140737488355328) (hbp : 0 < bytes)
    (h : ∀ v' w', Own c e w' B F v' (l ++ [y]) → Out (fun k => v.ownBlock = some k) w w' → (v'.ownBlock = v.ownBlock ∨ v'.ownBlock = some w.heap.size) → K (a.put o.dst v') w') :
    o.wp P a w K Q := by
  obtain ⟨v', w', hr, h2, h3, h5⟩ := run_append_one (P := P) (ty := o.type) hf hown hB hblk y hrep h63 hbp
  unfold Oper.wp execOp
  simp only [ho, resolve, invoke, builtin, Sem.run_bind, Sem.run_pure, Result.andThen_ok, List.map_toArray, List.map_cons, List.map_nil, hs, hxv, hr]
  exact h v' w' h2 (Out.ofGrown h3) h5

theorem wpList_append_one {P : Program} {w : World} {ops : Array Oper} {rest : List Oper} {o : Oper} {a : Act} {Q : Exit → Act → World → Prop} (hgd : o.guard = none) (s x : Operand) (t : TypeId)
    (ho : o.op = .call { callee := .builtin .append, args := #[s, x], argTypes := #[t, t] })
    {c : Codec α} {e : TypeId} {bytes : Nat} (hf : Fits P t e c.size bytes) {B : Nat} {F : Nat → Prop} {v : Value} {l : List α}
    (hown : Own c e w B F v l) (hs : a.eval s = v) (hB : B ≤ w.heap.size) {g : Nat} {cs : Array Value} {t' : TypeId} (hblk : w.heap[g]? = some (.cells cs t')) (hxv : a.eval x = .slice (some ⟨g, 0, none⟩) 1 1)
    (y : α) (hrep : c.rep w (fun b => F b ∧ v.ownBlock ≠ some b) cs.toList y) (h63 : (l.length + 1) * bytes ≤ 140737488355328) (hbp : 0 < bytes)
    (h : ∀ v' w', Own c e w' B F v' (l ++ [y]) → Out (fun k => v.ownBlock = some k) w w' → (v'.ownBlock = v.ownBlock ∨ v'.ownBlock = some w.heap.size) → wpList P ops Q rest (a.put o.dst v') w') :
    wpList P ops Q (o :: rest) a w :=
  wpList_plain hgd fun _ hK => wp_append_one s x t ho hf hown hs hB hblk hxv y hrep h63 hbp fun v' w' h2 h3 h4 => hK _ _ (h v' w' h2 h3 h4)

theorem step_append_one {P : Program} {w : World} {ops : Array Oper} {o : Oper} {a : Act} {K : Act → World → Prop} {Q : Exit → Act → World → Prop} {E : Prop} (hgd : o.guard = none) (s x : Operand) (t : TypeId)
    (ho : o.op = .call { callee := .builtin .append, args := #[s, x], argTypes := #[t, t] })
    {c : Codec α} {e : TypeId} {bytes : Nat} (hf : Fits P t e c.size bytes) {B : Nat} {F : Nat → Prop} {v : Value} {l : List α}
    (hown : Own c e w B F v l) (hs : a.eval s = v) (hB : B ≤ w.heap.size) {g : Nat} {cs : Array Value} {t' : TypeId} (hblk : w.heap[g]? = some (.cells cs t')) (hxv : a.eval x = .slice (some ⟨g, 0, none⟩) 1 1)
    (y : α) (hrep : c.rep w (fun b => F b ∧ v.ownBlock ≠ some b) cs.toList y) (h63 : (l.length + 1) * bytes ≤ 140737488355328) (hbp : 0 < bytes)
    (h : ∀ v' w', Own c e w' B F v' (l ++ [y]) → Out (fun k => v.ownBlock = some k) w w' → (v'.ownBlock = v.ownBlock ∨ v'.ownBlock = some w.heap.size) → K (a.put o.dst v') w') :
    if Region.wanted o (yielded ops a.tmps) = true then Oper.wp P o a w K Q else E := by
  rw [if_pos (by simp [Region.wanted, hgd])]
  exact wp_append_one s x t ho hf hown hs hB hblk hxv y hrep h63 hbp h

theorem Sl.take {c : Codec α} {w : World} {F : Nat → Prop} {A : Option Addr} {n cap : Nat} {l : List α} (h : Sl c w F (.slice A n cap) l) (k : Nat) (hk : k ≤ l.length) : Sl c w F (.slice A k cap) (l.take k) := by
  have hl : (l.take k).length = k := List.length_take_of_le hk
  obtain ⟨A', cap', hv, h1, h2, h3, h4, h5⟩ := h
  injection hv with e1 e2 e3
  subst e1 e3
  refine ⟨A, cap, by rw [hl], by omega, h2, by omega, h4, fun i hi => ?_⟩
  obtain ⟨b, off, cs, hA, hb, hat, hr⟩ := h5 i (by omega)
  exact ⟨b, off, cs, hA, hb, hat, by rw [List.getElem_take]; exact hr⟩

/-- Is the slice nil? Then it has no element. -/
theorem Sl.eqlNil {P : Program} {c : Codec α} {w0 : World} {F : Nat → Prop} {v : Value} {l : List α} (h : Sl c w0 F v l) {t e : TypeId} (ht : P.underlying t = some (.slice e)) :
    ∃ b, (∀ w, (binOp .eql t v (.slice none 0 0)).run P w = .ok (.bool b) w) ∧ (∀ op x y w, (eqGuard op t x y v (.slice none 0 0)).run P w = .ok () w) ∧ (b = true → l = []) := by
  obtain ⟨A, cap, rfl, h1, h2, h3, h4⟩ := h.form
  refine ⟨A.isNone, fun w => Lib.run_eql_slice_nil w t e A l.length cap 0 0 ht, fun op x y w => ?_, fun hb => ?_⟩
  · cases op <;> simp [eqGuard, Sem.run_pure]
  rw [Option.isNone_iff_eq_none] at hb
  have := h4 hb
  exact List.eq_nil_of_length_eq_zero (by omega)

theorem Sl.entAt {w : World} {F : Nat → Prop} {A : Option Addr} {n cap : Nat} {l : List Ent} (h : Sl entCA w F (.slice A n cap) l) (i : Nat) (hi : i < l.length) :
    ∃ b off u v, A = some ⟨b, off, none⟩ ∧ F b ∧ w.cell? ⟨b, off + i * 4, none⟩ = some u ∧ w.cell? ⟨b, off + i * 4 + 1, none⟩ = some (u64V l[i].key.seq) ∧ w.cell? ⟨b, off + i * 4 + 2, none⟩ = some (byteV l[i].key.kind) ∧
      w.cell? ⟨b, off + i * 4 + 3, none⟩ = some v ∧ BsA w F u l[i].key.user ∧ BsA w F v l[i].value := by
  obtain ⟨b, off, cs, hA, hF, hat, u, v, rfl, h1, h2⟩ := h.get i hi
  exact ⟨b, off, u, v, hA, hF, hat 0 _ rfl, hat 1 _ rfl, hat 2 _ rfl, hat 3 _ rfl, h1, h2⟩
/-- Element i of a slice of entries. -/
theorem Sl.ent {w : World} {F : Nat → Prop} {A : Option Addr} {n cap : Nat} {l : List Ent} (h : Sl entC w F (.slice A n cap) l) (i : Nat) (hi : i < l.length) :
    ∃ b off u v, A = some ⟨b, off, none⟩ ∧ F b ∧ w.cell? ⟨b, off + i * 4, none⟩ = some u ∧ w.cell? ⟨b, off + i * 4 + 1, none⟩ = some (u64V l[i].key.seq) ∧ w.cell? ⟨b, off + i * 4 + 2, none⟩ = some (byteV l[i].key.kind) ∧
      w.cell? ⟨b, off + i * 4 + 3, none⟩ = some v ∧ Bs w F u l[i].key.user ∧ Bs w F v l[i].value := by
  obtain ⟨b, off, cs, hA, hF, hat, u, v, rfl, h1, h2⟩ := h.get i hi
  exact ⟨b, off, u, v, hA, hF, hat 0 _ rfl, hat 1 _ rfl, hat 2 _ rfl, hat 3 _ rfl, h1, h2⟩

theorem le_alloc {B : Nat} {w : World} (h : B ≤ w.heap.size) (o : Obj) : B ≤ (w.alloc o).heap.size := by rw [World.size_alloc]; omega
/-- What is made now is not the row that was made before. -/
theorem fresh_ok {B n : Nat} {v : Value} (hB : B ≤ n) (hlt : ∀ k, v.ownBlock = some k → B ≤ k ∧ k < n) {b : Nat} (hb : n ≤ b) : B ≤ b ∧ v.ownBlock ≠ some b :=
  ⟨Nat.le_trans hB hb, fun e => by have := (hlt b e).2; omega⟩
theorem ent_rep {w : World} {F G H : Nat → Prop} {u v : Value} {e : Ent} (hu : Bs w F u e.key.user) (hv : Bs w G v e.value) (hF : ∀ b, F b → b < w.heap.size → H b) (hG : ∀ b, G b → b < w.heap.size → H b) :
    entC.rep w H [u, u64V e.key.seq, byteV e.key.kind, v] e := ⟨u, v, rfl, hu.mono hF (.inl (by decide)), hv.mono hG (.inl (by decide))⟩
theorem ent_repA {w : World} {F G H : Nat → Prop} {u v : Value} {e : Ent} (hu : BsA w F u e.key.user) (hv : BsA w G v e.value) (hF : ∀ b, F b → b < w.heap.size → H b) (hG : ∀ b, G b → b < w.heap.size → H b) :
    entCA.rep w H [u, u64V e.key.seq, byteV e.key.kind, v] e := ⟨u, v, rfl, hu.mono hF (.inl (by decide)), hv.mono hG (.inl (by decide))⟩
theorem room_take {α : Type} {l : List α} {k n m : Nat} (h : l.length < n) (hm : n * m ≤ 140737488355328) : ((l.take k).length + 1) * m ≤ 140737488355328 :=
  Nat.le_trans (Nat.mul_le_mul_right m (by have := List.length_take_le k l; have := List.length_take_le' k l; omega)) hm
/-- The row that was appended to is one of the call's own. -/
theorem Out.own {a w w' : World} {B : Nat} {v : Value} (h : Ext a w) (k : Out (fun k => v.ownBlock = some k) w w') (hlt : ∀ k, v.ownBlock = some k → B ≤ k) (hB : a.heap.size ≤ B) : Ext a w' :=
  h.then k fun i hi e => by have := hlt i e; omega

/-! ### a byte slice turned to a string -/
theorem byteV_list (l : List UInt8) : l.map byteV = (l.map fun b => (b.toNat : Int)).map (Value.int .u8) := by simp [byteV]

theorem Bs.cells {w : World} {F : Nat → Prop} {A : Option Addr} {n cap : Nat} {l : List UInt8} (h : Bs w F (.slice A n cap) l) (hl : 0 < l.length) :
    ∃ b off, A = some ⟨b, off, none⟩ ∧ F b ∧ At w b off (l.map byteV) := by
  obtain ⟨b, off, cs, hA, hb, _, _⟩ := h.get 0 hl
  have key : ∀ i (hi : i < l.length), w.cell? ⟨b, off + i, none⟩ = some (byteV l[i]) ∧ w.frozen? ⟨b, off + i, none⟩ = false := fun i hi => by
    obtain ⟨b', off', cs', hA', _, hat, hr⟩ := h.get i hi
    rw [hA] at hA'
    injection hA' with e
    injection e with e1 e2
    subst e1 e2
    have hr' : cs' = [byteV l[i]] := hr
    subst hr'
    have h1 := hat.cell 0 (byteV l[i]) rfl
    have h2 := hat.free 0 (by simp)
    simp only [byteC, Nat.mul_one, Nat.add_zero] at h1 h2
    exact ⟨h1, h2⟩
  refine ⟨b, off, hA, hb, fun i v hv => ?_, fun i hi => (key i (by simpa using hi)).2⟩
  rw [List.getElem?_map] at hv
  rcases Nat.lt_or_ge i l.length with hi | hi
  · rw [List.getElem?_eq_getElem hi] at hv
    rw [(key i hi).1]; simpa using hv
  · rw [List.getElem?_eq_none hi] at hv; simp at hv

def strOf (l : List UInt8) : ByteArray := ⟨l.toArray⟩

theorem run_bytes_string {P : Program} {w : World} {F : Nat → Prop} {v : Value} {l : List UInt8} (h : Bs w F v l) {src dst e : TypeId}
    (hs : P.underlying src = some (.slice e)) (he : P.underlying e = some (.int .u8)) (hd : P.underlying dst = some .string) : (convert src dst v).run P w = .ok (.string (strOf l)) w := by
  obtain ⟨A, cap, rfl, h1, h2, h3, h4⟩ := h.form
  rw [run_convert_bytes_string w src dst e A _ _ hs he hd]
  rcases A with _ | ad
  · have h0 : cap = 0 := h4 rfl
    have hl : l = [] := List.eq_nil_of_length_eq_zero (by omega)
    subst hl
    simp [Conv.bytesToString, strOf]; rfl
  · have hl : (loadCells ad l.length).run P w = .ok ((l.map fun b => (b.toNat : Int)).map (Value.int .u8)).toArray w := by
      rw [← byteV_list]
      have := run_loadCells_list (P := P) w ad (l.map byteV) (fun j v hj => by
        have hjl : j < l.length := by
          rcases Nat.lt_or_ge j l.length with hh | hh
          · exact hh
          · rw [List.getElem?_map, List.getElem?_eq_none hh] at hj; simp at hj
        obtain ⟨b, off, hA, _, hat⟩ := Bs.cells h (by omega)
        injection hA with hA
        subst hA
        have hplain : (⟨b, off, none⟩ : Addr).add j = ⟨b, off + j, none⟩ := by unfold Addr.add; split <;> simp_all
        rw [hplain]; exact hat j v hj)
      simpa using this
    rw [run_bytesToString w ad _ cap _ hl, foldl_push_bytes]
    congr 2
    have e : (l.map fun b => (b.toNat : Int)).map (fun n => UInt8.ofNat n.toNat) = l := by
      rw [List.map_map]
      conv => rhs; rw [← List.map_id l]
      exact List.map_congr_left fun a _ => by simp
    rw [e]
    simp [strOf, ByteArray.empty, ByteArray.emptyWithCapacity]
    rfl

/-- The order of byte strings: -1, 0, 1. -/
def bcmp : List UInt8 → List UInt8 → Int
  | [], [] => 0
  | [], _ :: _ => -1
  | _ :: _, [] => 1
  | a :: x, b :: y => if a < b then -1 else if b < a then 1 else bcmp x y

theorem bcmp_range : ∀ a b, -1 ≤ bcmp a b ∧ bcmp a b ≤ 1
  | [], [] => by simp [bcmp]
  | [], _ :: _ => by simp [bcmp]
  | _ :: _, [] => by simp [bcmp]
  | a :: x, b :: y => by
    have := bcmp_range x y
    unfold bcmp; split
    · omega
    · split <;> omega

theorem bcmp_neg : ∀ a b, decide (bcmp a b < 0) = Op.bytesLess a b
  | [], [] => by simp [bcmp, Op.bytesLess]
  | [], _ :: _ => by simp [bcmp, Op.bytesLess]
  | _ :: _, [] => by simp [bcmp, Op.bytesLess]
  | a :: x, b :: y => by
    unfold bcmp Op.bytesLess
    by_cases h : a < b
    · simp [h]
    · by_cases h2 : b < a
      · have hn : a ≠ b := fun e => by subst e; exact h h2
        simp [h, h2, hn]
      · have he : a = b := UInt8.le_antisymm (UInt8.not_lt.1 h2) (UInt8.not_lt.1 h)
        subst he
        simp [h, bcmp_neg x y]

theorem bcmp_zero : ∀ a b, bcmp a b = 0 ↔ a = b
  | [], [] => by simp [bcmp]
  | [], _ :: _ => by simp [bcmp]
  | _ :: _, [] => by simp [bcmp]
  | a :: x, b :: y => by
    unfold bcmp
    by_cases h : a < b
    · have hn : a ≠ b := fun e => by subst e; exact UInt8.lt_irrefl _ h
      simp [h, hn]
    · by_cases h2 : b < a
      · have hn : a ≠ b := fun e => by subst e; exact h h2
        simp [h, h2, hn]
      · have he : a = b := UInt8.le_antisymm (UInt8.not_lt.1 h2) (UInt8.not_lt.1 h)
        subst he
        simp [h, bcmp_zero x y]

theorem strOf_toList (l : List UInt8) : (strOf l).toList = l := by rw [ByteArray.toList_eq]; rfl

end Go.Proofs.Yteaanagljmcidaa
namespace Go.Proofs.Yteaanagljmcidaa
open Go.RowKit
variable {α : Type}

/-- The value is a slice; nothing is said of its length (for the walk). -/
theorem Sl.form0 {c : Codec α} {w : World} {F : Nat → Prop} {v : Value} {l : List α} (h : Sl c w F v l) : ∃ A n cap, v = .slice A n cap :=
  let ⟨A, cap, hv, _⟩ := h; ⟨A, _, cap, hv⟩
theorem Own.form0 {c : Codec α} {e : TypeId} {w : World} {B : Nat} {F : Nat → Prop} {v : Value} {l : List α} (h : Own c e w B F v l) : ∃ A n cap, v = .slice A n cap :=
  let ⟨A, cap, hv, _⟩ := h.form; ⟨A, _, cap, hv⟩

theorem cell_alloc {w : World} {p : Addr} {v : Value} (h : w.cell? p = some v) (o : Obj) : (w.alloc o).cell? p = some v := (Ext.alloc1 w o).cell h (fun f => f)
theorem Own.ne_new {c : Codec α} {e : TypeId} {w : World} {B : Nat} {F : Nat → Prop} {v : Value} {l : List α} (h : Own c e w B F v l) : ¬ v.ownBlock = some w.heap.size := fun e => by have := (h.lt _ e).2; omega
/-- A slice of one element that lies in a block known whole. -/
theorem Sl.one {c : Codec α} {w : World} {F : Nat → Prop} {g : Nat} {cs : Array Value} {t : TypeId} (h : w.heap[g]? = some (.cells cs t)) {y : α} (hr : c.rep w F cs.toList y) (hg : F g) : Sl c w F (.slice (some ⟨g, 0, none⟩) 1 1) [y] := by
  refine ⟨_, 1, rfl, by simp, by simp [maxLen], c.bpos, (fun h => by cases h), fun i hi => ?_⟩
  have hi0 : i = 0 := by simpa using hi
  subst hi0
  refine ⟨g, 0, cs.toList, rfl, hg, ⟨fun j u hu => ?_, fun j _ => blk_free h _⟩, by simpa using hr⟩
  rw [show 0 + 0 * c.size + j = j from by omega, blk_cell h]
  simpa using hu

/-- The first entry of a slice, at its own address. -/
theorem Sl.ent0 {w : World} {F : Nat → Prop} {v : Value} {e : Ent} {l : List Ent} (h : Sl entC w F v (e :: l)) :
    ∃ b off cap x y, v = .slice (some ⟨b, off, none⟩) (e :: l).length cap ∧ F b ∧ w.cell? ⟨b, off, none⟩ = some x ∧ w.cell? ⟨b, off + 1, none⟩ = some (u64V e.key.seq) ∧ w.cell? ⟨b, off + 2, none⟩ = some (byteV e.key.kind) ∧
      w.cell? ⟨b, off + 3, none⟩ = some y ∧ Bs w F x e.key.user ∧ Bs w F y e.value := by
  obtain ⟨A, cap, rfl, _⟩ := h.form
  obtain ⟨b, off, x, y, rfl, hF, c0, c1, c2, c3, h1, h2⟩ := h.ent 0 (by simp)
  simp only [Nat.zero_mul, Nat.add_zero, List.getElem_cons_zero] at c0 c1 c2 c3 h1 h2
  exact ⟨b, off, cap, x, y, rfl, hF, c0, c1, c2, c3, h1, h2⟩

theorem blk_at {w : World} {o : Obj} {n : Nat} (h : w.heap.size = n) : (w.alloc o).heap[n]? = some o := by subst h; exact blk_new w o
theorem blk_atD {w : World} {o : Obj} {n : Nat} (h : w.heap.size = n) : (w.alloc o).drew.heap[n]? = some o := blk_at h

/-- An entry and a height. -/
structure PutE where
  e : Ent
  h : Int
  deriving Inhabited

def putC : Codec PutE where
  size := 5
  rep w F cs p := ∃ u v, cs = [u, u64V p.e.key.seq, byteV p.e.key.kind, v, .int .i64 p.h] ∧ Bs w F u p.e.key.user ∧ Bs w F v p.e.value ∧ -9223372036854775808 ≤ p.h ∧ p.h ≤ 9223372036854775807
  len := fun ⟨_, _, h, _⟩ => by rw [h]; rfl
  one := fun ⟨u, v, h, hb, hc, _⟩ x hx => by
    rw [h] at hx; obtain ⟨A, cap, rfl, _⟩ := hb.form; obtain ⟨A', cap', rfl, _⟩ := hc.form
    simp only [List.mem_cons, List.not_mem_nil, or_false] at hx
    rcases hx with rfl | rfl | rfl | rfl | rfl <;> rfl
  frame := fun ⟨u, v, h, hb, hc, hd⟩ hF => ⟨u, v, h, hb.frame hF, hc.frame hF, hd⟩
  mono := fun ⟨u, v, h, hb, hc, hd⟩ hF => ⟨u, v, h, hb.mono hF (.inl (by decide)), hc.mono hF (.inl (by decide)), hd⟩

def putCA : Codec PutE where
  size := 5
  rep w F cs p := ∃ u v, cs = [u, u64V p.e.key.seq, byteV p.e.key.kind, v, .int .i64 p.h] ∧ BsA w F u p.e.key.user ∧ BsA w F v p.e.value ∧ -9223372036854775808 ≤ p.h ∧ p.h ≤ 9223372036854775807
  len := fun ⟨_, _, h, _⟩ => by rw [h]; rfl
  one := fun ⟨u, v, h, hb, hc, _⟩ x hx => by
    rw [h] at hx; obtain ⟨A, cap, rfl, _⟩ := hb.form; obtain ⟨A', cap', rfl, _⟩ := hc.form
    simp only [List.mem_cons, List.not_mem_nil, or_false] at hx
    rcases hx with rfl | rfl | rfl | rfl | rfl <;> rfl
  frame := fun ⟨u, v, h, hb, hc, hd⟩ hF => ⟨u, v, h, hb.frame hF, hc.frame hF, hd⟩
  mono := fun ⟨u, v, h, hb, hc, hd⟩ hF => ⟨u, v, h, hb.mono hF (.inl (by decide)), hc.mono hF (.inl (by decide)), hd⟩
  bound := maxLen
  bpos := by decide
theorem Sl.putAt {w : World} {F : Nat → Prop} {A : Option Addr} {n cap : Nat} {l : List PutE} (h : Sl putCA w F (.slice A n cap) l) (i : Nat) (hi : i < l.length) :
    ∃ b off u v, A = some ⟨b, off, none⟩ ∧ F b ∧ w.cell? ⟨b, off + i * 5, none⟩ = some u ∧ w.cell? ⟨b, off + i * 5 + 1, none⟩ = some (u64V l[i].e.key.seq) ∧ w.cell? ⟨b, off + i * 5 + 2, none⟩ = some (byteV l[i].e.key.kind) ∧
      w.cell? ⟨b, off + i * 5 + 3, none⟩ = some v ∧ w.cell? ⟨b, off + i * 5 + 4, none⟩ = some (.int .i64 l[i].h) ∧ BsA w F u l[i].e.key.user ∧ BsA w F v l[i].e.value ∧ -9223372036854775808 ≤ l[i].h ∧ l[i].h ≤ 9223372036854775807 := by
  obtain ⟨b, off, cs, hA, hF, hat, u, v, rfl, h1, h2, h3⟩ := h.get i hi
  exact ⟨b, off, u, v, hA, hF, hat 0 _ rfl, hat 1 _ rfl, hat 2 _ rfl, hat 3 _ rfl, hat 4 _ rfl, h1, h2, h3⟩
theorem Sl.put {w : World} {F : Nat → Prop} {A : Option Addr} {n cap : Nat} {l : List PutE} (h : Sl putC w F (.slice A n cap) l) (i : Nat) (hi : i < l.length) :
    ∃ b off u v, A = some ⟨b, off, none⟩ ∧ F b ∧ w.cell? ⟨b, off + i * 5, none⟩ = some u ∧ w.cell? ⟨b, off + i * 5 + 1, none⟩ = some (u64V l[i].e.key.seq) ∧ w.cell? ⟨b, off + i * 5 + 2, none⟩ = some (byteV l[i].e.key.kind) ∧
      w.cell? ⟨b, off + i * 5 + 3, none⟩ = some v ∧ w.cell? ⟨b, off + i * 5 + 4, none⟩ = some (.int .i64 l[i].h) ∧ Bs w F u l[i].e.key.user ∧ Bs w F v l[i].e.value ∧ -9223372036854775808 ≤ l[i].h ∧ l[i].h ≤ 9223372036854775807 := by
  obtain ⟨b, off, cs, hA, hF, hat, u, v, rfl, h1, h2, h3⟩ := h.get i hi
  exact ⟨b, off, u, v, hA, hF, hat 0 _ rfl, hat 1 _ rfl, hat 2 _ rfl, hat 3 _ rfl, hat 4 _ rfl, h1, h2, h3⟩
theorem Sl.drewN {c : Codec α} {w : World} {F : Nat → Prop} {v : Value} {l : List α} (h : Sl c w F v l) (n : Nat) : Sl c (w.drewN n) F v l := h.frame fun _ _ _ => rfl
end Go.Proofs.Yteaanagljmcidaa
namespace Go.Proofs.Yteaanagljmcidaa
open Go.RowKit

/-- The contract of an iterator: what it hands to the rounds can be read there; rounds alter blocks of K alone. -/
def Gives {α : Type} (n : Nat) (P : Program) (gf : Nat) (lb : Array Value) (encs : α → Array Value) (Rd : Nat → α → World → Prop) (B : Nat) (K : Nat → Prop) (S : List α → Prop) (N : Nat) (w : World) : Prop :=
  ∀ (l : Nat) (J : List α → World → Prop) (W : World), Out K w W → B ≤ W.heap.size → (∀ pre A B, J pre A → Ext A B → J pre B) →
    (∀ pre x W0 W1, J pre W0 → Ext W0 W1 → B ≤ W0.heap.size → Rd W0.heap.size x W1 → pre.length < N → YieldAt Fence.wide (n - 1) P l (encs x) W1 fun e W' => e = .returned (.bool true) ∧ J (pre ++ [x]) W' ∧ Out K W1 W') →
    J [] W →
    CallsIn Fence.wide n P gf (#[.func (.yield l) #[] #[]] ++ lb) W fun e W' => (∃ v, e = .returned v) ∧ ∃ xs, S xs ∧ J xs W' ∧ Out K W W'

theorem out_putObj (W : World) (l : Nat) (o : Obj) : Out (fun b => b = l) W (W.putObj l o) :=
  ⟨rfl, rfl, rfl, by simp, fun k _ hk => World.putObj_heap_other hk⟩

theorem wp_rangeFunc {α : Type} {P : Program} {n : Nat} {g : Operand} {ps : Array Tmp} {assign body : Code} {Q : Exit → Act → World → Prop} {a : Act} {w : World}
    (gf : Nat) (lb : Array Value) (hg : a.eval g = .func (.func gf) #[] lb) (eg : ∀ args w, (callFunc gf args).run P w = .ok (.enter gf args) w)
    {encs : α → Array Value} {Rd : Nat → α → World → Prop} {K : Nat → Prop} {S : List α → Prop} {N : Nat} (D : Nat) (hseq : Gives (n - 1) P gf lb encs Rd (D + 2) K S N w) (hD : w.heap.size = D) (hK : ∀ b, D ≤ b → K b) (hps : ∀ x, (encs x).size = ps.size)
    (I : List α → World → Prop) (hI : ∀ pre A B, I pre A → Out (fun b => b = D ∨ b = D + 1) A B → I pre B)
    (h0 : I [] w)
    (hround : ∀ (l : Nat) (pre : List α) (x : α) (W0 W : World), I pre W0 → Ext W0 W → D + 2 ≤ W0.heap.size → Rd W0.heap.size x W → pre.length < N →
      assign.wpIn (Fence.wide.inRound l) (n - 1 - 1) P (Exit.then (fun a₁ W1 => Out (fun b => K b ∧ b ≠ D ∧ b ≠ D + 1) W W1 ∧ ∀ W2, Out (fun b => b = D + 1) W1 W2 →
        body.wpIn (Fence.wide.inRound l) (n - 1 - 1) P (Exit.then (fun _ W3 => Out (fun b => K b ∧ b ≠ D ∧ b ≠ D + 1) W2 W3 ∧ I (pre ++ [x]) W3) (fun _ _ _ => False)) a₁ W2) (fun _ _ _ => False))
        { tmps := (ps.zip (encs x)).foldl (fun t (p, v) => t.setIfInBounds p v) a.tmps, defers := [] } W)
    (hdone : ∀ (xs : List α) (W : World), S xs → I xs W → Out K w W → W.heap[D]? = some (.deferred (some [])) → Q .normal { a with defers := { target := .collected D, args := #[] } :: a.defers } W) :
    (Code.rangeFunc g ps assign body).wpIn Fence.wide n P Q a w := by
  refine wpIn_rangeFunc fun fn hfn => ?_
  obtain ⟨rc, hrc⟩ : ∃ rc : LoopState → Loop, rc = fun st => { state := st, pending := none, fn, tmps := a.tmps, params := ps, assign, body, defers := D } := ⟨_, rfl⟩
  have x1 : Ext w ((w.alloc (.deferred (some []))).alloc (.loop (rc .ready))) := ((Out.refl _ w).alloc _).alloc _
  have hk1 : ((w.alloc (.deferred (some []))).alloc (.loop (rc .ready))).heap[D]? = some (.deferred (some [])) := blk_alloc (blk_at hD) _
  have hl1 : ((w.alloc (.deferred (some []))).alloc (.loop (rc .ready))).heap[D + 1]? = some (.loop (rc .ready)) := blk_at (by simp [hD])
  refine ⟨D + 1, [{ target := .collected D, args := #[] }], (w.alloc (.deferred (some []))).alloc (.loop (rc .ready)), { target := .fn (.func gf) lb, args := #[.func (.yield (D + 1)) #[] #[]] }, (w.alloc (.deferred (some []))).alloc (.loop (rc .ready)), gf, #[.func (.yield (D + 1)) #[] #[]] ++ lb, (w.alloc (.deferred (some []))).alloc (.loop (rc .ready)), ?_, ?_, fun _ _ => trivial, ?_, fun h => by simp [Fence.wide] at h, ?_⟩
  · have := run_enterLoop_outer (P := P) (w := w) fn a.tmps ps assign body
    rw [hD] at this
    rw [hrc]; exact this
  · simp only [resolve, hg]
    simp [go_sem]
  · simp [invoke, go_sem, eg]
  · refine (hseq (D + 1) (fun pre W => I pre W ∧ W.heap[D + 1]? = some (.loop (rc .ready)) ∧ W.heap[D]? = some (.deferred (some []))) _ (x1.out _) (by simp; omega) (fun pre A B h hx => ⟨hI _ _ _ h.1 (hx.out _), hx.blk h.2.1 (fun f => f), hx.blk h.2.2 (fun f => f)⟩) ?_ ⟨hI _ _ _ h0 (x1.out _), hl1, hk1⟩).mono ?_
    · rintro pre x W0 W ⟨hi, hl, hk⟩ hxt hsz hx hlen
      have hl := hxt.blk hl (fun f => f)
      have hk := hxt.blk hk (fun f => f)
      have hlt : D + 1 < W.heap.size := blk_lt hl
      have hy := run_yield (P := P) (args := encs x) hl (by rw [hrc]; exact hps x)
      rw [hrc] at hy
      refine ⟨fn, _, assign, body, hy, roundIn_of_wpIn hfn (wpIn_mono (hround _ pre x W0 W hi hxt hsz hx hlen) ?_)⟩
      rintro e1 a1 W1 hp1
      cases e1 with
      | normal =>
        obtain ⟨ho1, hb1⟩ := hp1
        have hl1 := ho1.blk hl (fun h => h.2.2 rfl)
        have hk1 := ho1.blk hk (fun h => h.2.1 rfl)
        refine ⟨_, run_beginRound hl1 (by rw [hrc]), ?_⟩
        have e2 : ({ rc .ready with state := .busy } : Loop) = rc .busy := by rw [hrc]
        rw [e2]
        have x2 : Out (fun b => b = D + 1) W1 (W1.putObj (D + 1) (.loop (rc .busy))) := out_putObj _ _ _
        have hl2 : (W1.putObj (D + 1) (.loop (rc .busy))).heap[D + 1]? = some (.loop (rc .busy)) := World.putObj_heap_same (blk_lt hl1)
        have hk2 : (W1.putObj (D + 1) (.loop (rc .busy))).heap[D]? = some (.deferred (some [])) := (World.putObj_heap_other (by omega)).trans hk1
        refine wpIn_mono (hb1 _ x2) ?_
        rintro e a3 W3 hp
        cases e with
        | normal =>
          obtain ⟨ho, hi3⟩ := hp
          have hl3 := ho.blk hl2 (fun h => h.2.2 rfl)
          have hk3 := ho.blk hk2 (fun h => h.2.1 rfl)
          have hr := run_endRound (P := P) none hl3
          have e3 : ({ rc .busy with state := if (none : Option Code).isNone then .ready else .done, pending := none } : Loop) = rc .ready := by rw [hrc]; rfl
          rw [e3] at hr
          refine ⟨_, _, hr, rfl, ⟨hI _ _ _ hi3 ((out_putObj _ _ _).mono fun _ _ => .inr), World.putObj_heap_same (blk_lt hl3), (World.putObj_heap_other (by omega)).trans hk3⟩, ?_⟩
          exact (((ho1.mono fun b _ h => h.1).trans (x2.mono fun b _ h => hK b (by omega))).trans (ho.mono fun b _ h => h.1)).trans ((out_putObj _ _ _).mono fun b _ h => hK b (by omega))
        | _ => exact hp.elim
      | _ => exact hp1.elim
    · rintro e W2 ⟨⟨v, rfl⟩, xs, hS, ⟨hi, hl, hk⟩, ho⟩
      have hr := run_endLoop (P := P) hl (by rw [hrc]; simp)
      rw [hrc] at hr
      exact ⟨none, _, hr, hdone xs _ hS (hI _ _ _ hi ((out_putObj _ _ _).mono fun _ _ => .inr)) (((x1.out _).trans ho).trans ((out_putObj _ _ _).mono fun b _ h => hK b (by omega))) ((World.putObj_heap_other (by omega)).trans hk)⟩
end Go.Proofs.Yteaanagljmcidaa
namespace Go.Proofs.Yteaanagljmcidaa
open Go.RowKit

/-- The contract of an iterator: what it hands to the rounds can be read there; rounds alter blocks of K alone. -/
def GivesT {α : Type} (n : Nat) (P : Program) (gf : Nat) (lb : Array Value) (encs : α → Array Value) (Rd : Nat → α → World → Prop) (B : Nat) (K T : Nat → Prop) (S : List α → Prop) (N : Nat) (w : World) : Prop :=
  ∀ (l : Nat) (J : List α → World → Prop) (W : World), Out K w W → B ≤ W.heap.size → (∀ pre A B, J pre A → Out T A B → J pre B) →
    (∀ pre x W0 W1, J pre W0 → Out T W0 W1 → B ≤ W0.heap.size → Rd W0.heap.size x W1 → pre.length < N → YieldAt Fence.wide (n - 1) P l (encs x) W1 fun e W' => e = .returned (.bool true) ∧ J (pre ++ [x]) W' ∧ Out K W1 W') →
    J [] W →
    CallsIn Fence.wide n P gf (#[.func (.yield l) #[] #[]] ++ lb) W fun e W' => (∃ v, e = .returned v) ∧ ∃ xs, S xs ∧ J xs W' ∧ Out (fun b => K b ∨ T b) W W'

theorem wp_rangeFuncT {α : Type} {P : Program} {n : Nat} {g : Operand} {ps : Array Tmp} {assign body : Code} {Q : Exit → Act → World → Prop} {a : Act} {w : World}
    (gf : Nat) (lb : Array Value) (hg : a.eval g = .func (.func gf) #[] lb) (eg : ∀ args w, (callFunc gf args).run P w = .ok (.enter gf args) w)
    {encs : α → Array Value} {Rd : Nat → α → World → Prop} {K T : Nat → Prop} {S : List α → Prop} {N : Nat} (D : Nat) (hseq : GivesT (n - 1) P gf lb encs Rd (D + 2) K T S N w) (hD : w.heap.size = D) (hK : ∀ b, D ≤ b → K b) (hT : ∀ b, T b → b < D) (hps : ∀ x, (encs x).size = ps.size)
    (I : List α → World → Prop) (hI : ∀ pre A B, I pre A → Out (fun b => T b ∨ b = D ∨ b = D + 1) A B → I pre B)
    (h0 : I [] w)
    (hround : ∀ (l : Nat) (pre : List α) (x : α) (W0 W : World), I pre W0 → Out T W0 W → D + 2 ≤ W0.heap.size → Rd W0.heap.size x W → pre.length < N →
      assign.wpIn (Fence.wide.inRound l) (n - 1 - 1) P (Exit.then (fun a₁ W1 => Out (fun b => K b ∧ b ≠ D ∧ b ≠ D + 1) W W1 ∧ ∀ W2, Out (fun b => b = D + 1) W1 W2 →
        body.wpIn (Fence.wide.inRound l) (n - 1 - 1) P (Exit.then (fun _ W3 => Out (fun b => K b ∧ b ≠ D ∧ b ≠ D + 1) W2 W3 ∧ I (pre ++ [x]) W3) (fun _ _ _ => False)) a₁ W2) (fun _ _ _ => False))
        { tmps := (ps.zip (encs x)).foldl (fun t (p, v) => t.setIfInBounds p v) a.tmps, defers := [] } W)
    (hdone : ∀ (xs : List α) (W : World), S xs → I xs W → Out (fun b => K b ∨ T b) w W → W.heap[D]? = some (.deferred (some [])) → Q .normal { a with defers := { target := .collected D, args := #[] } :: a.defers } W) :
    (Code.rangeFunc g ps assign body).wpIn Fence.wide n P Q a w := by
  refine wpIn_rangeFunc fun fn hfn => ?_
  obtain ⟨rc, hrc⟩ : ∃ rc : LoopState → Loop, rc = fun st => { state := st, pending := none, fn, tmps := a.tmps, params := ps, assign, body, defers := D } := ⟨_, rfl⟩
  have x1 : Ext w ((w.alloc (.deferred (some []))).alloc (.loop (rc .ready))) := ((Out.refl _ w).alloc _).alloc _
  have hk1 : ((w.alloc (.deferred (some []))).alloc (.loop (rc .ready))).heap[D]? = some (.deferred (some [])) := blk_alloc (blk_at hD) _
  have hl1 : ((w.alloc (.deferred (some []))).alloc (.loop (rc .ready))).heap[D + 1]? = some (.loop (rc .ready)) := blk_at (by simp [hD])
  refine ⟨D + 1, [{ target := .collected D, args := #[] }], (w.alloc (.deferred (some []))).alloc (.loop (rc .ready)), { target := .fn (.func gf) lb, args := #[.func (.yield (D + 1)) #[] #[]] }, (w.alloc (.deferred (some []))).alloc (.loop (rc .ready)), gf, #[.func (.yield (D + 1)) #[] #[]] ++ lb, (w.alloc (.deferred (some []))).alloc (.loop (rc .ready)), ?_, ?_, fun _ _ => trivial, ?_, fun h => by simp [Fence.wide] at h, ?_⟩
  · have := run_enterLoop_outer (P := P) (w := w) fn a.tmps ps assign body
    rw [hD] at this
    rw [hrc]; exact this
  · simp only [resolve, hg]
    simp [go_sem]
  · simp [invoke, go_sem, eg]
  · refine (hseq (D + 1) (fun pre W => I pre W ∧ W.heap[D + 1]? = some (.loop (rc .ready)) ∧ W.heap[D]? = some (.deferred (some []))) _ (x1.out _) (by simp; omega) (fun pre A B h hx => ⟨hI _ _ _ h.1 (hx.mono fun _ _ => .inl), hx.blk h.2.1 (fun f => by have := hT _ f; omega), hx.blk h.2.2 (fun f => by have := hT _ f; omega)⟩) ?_ ⟨hI _ _ _ h0 (x1.out _), hl1, hk1⟩).mono ?_
    · rintro pre x W0 W ⟨hi, hl, hk⟩ hxt hsz hx hlen
      have hl := hxt.blk hl (fun f => by have := hT _ f; omega)
      have hk := hxt.blk hk (fun f => by have := hT _ f; omega)
      have hlt : D + 1 < W.heap.size := blk_lt hl
      have hy := run_yield (P := P) (args := encs x) hl (by rw [hrc]; exact hps x)
      rw [hrc] at hy
      refine ⟨fn, _, assign, body, hy, roundIn_of_wpIn hfn (wpIn_mono (hround _ pre x W0 W hi hxt hsz hx hlen) ?_)⟩
      rintro e1 a1 W1 hp1
      cases e1 with
      | normal =>
        obtain ⟨ho1, hb1⟩ := hp1
        have hl1 := ho1.blk hl (fun h => h.2.2 rfl)
        have hk1 := ho1.blk hk (fun h => h.2.1 rfl)
        refine ⟨_, run_beginRound hl1 (by rw [hrc]), ?_⟩
        have e2 : ({ rc .ready with state := .busy } : Loop) = rc .busy := by rw [hrc]
        rw [e2]
        have x2 : Out (fun b => b = D + 1) W1 (W1.putObj (D + 1) (.loop (rc .busy))) := out_putObj _ _ _
        have hl2 : (W1.putObj (D + 1) (.loop (rc .busy))).heap[D + 1]? = some (.loop (rc .busy)) := World.putObj_heap_same (blk_lt hl1)
        have hk2 : (W1.putObj (D + 1) (.loop (rc .busy))).heap[D]? = some (.deferred (some [])) := (World.putObj_heap_other (by omega)).trans hk1
        refine wpIn_mono (hb1 _ x2) ?_
        rintro e a3 W3 hp
        cases e with
        | normal =>
          obtain ⟨ho, hi3⟩ := hp
          have hl3 := ho.blk hl2 (fun h => h.2.2 rfl)
          have hk3 := ho.blk hk2 (fun h => h.2.1 rfl)
          have hr := run_endRound (P := P) none hl3
          have e3 : ({ rc .busy with state := if (none : Option Code).isNone then .ready else .done, pending := none } : Loop) = rc .ready := by rw [hrc]; rfl
          rw [e3] at hr
          refine ⟨_, _, hr, rfl, ⟨hI _ _ _ hi3 ((out_putObj _ _ _).mono fun _ _ h => .inr (.inr h)), World.putObj_heap_same (blk_lt hl3), (World.putObj_heap_other (by omega)).trans hk3⟩, ?_⟩
          exact (((ho1.mono fun b _ h => h.1).trans (x2.mono fun b _ h => hK b (by omega))).trans (ho.mono fun b _ h => h.1)).trans ((out_putObj _ _ _).mono fun b _ h => hK b (by omega))
        | _ => exact hp.elim
      | _ => exact hp1.elim
    · rintro e W2 ⟨⟨v, rfl⟩, xs, hS, ⟨hi, hl, hk⟩, ho⟩
      have hr := run_endLoop (P := P) hl (by rw [hrc]; simp)
      rw [hrc] at hr
      exact ⟨none, _, hr, hdone xs _ hS (hI _ _ _ hi ((out_putObj _ _ _).mono fun _ _ h => .inr (.inr h))) (((x1.out _).trans ho).trans ((out_putObj _ _ _).mono fun b _ h => .inl (hK b (by omega)))) ((World.putObj_heap_other (by omega)).trans hk)⟩
end Go.Proofs.Yteaanagljmcidaa
namespace Go.Proofs.Yteaanagljmcidaa
open Go.RowKit

theorem bs_string {w : World} {F : Nat → Prop} {v : Value} {l : List UInt8} (h : Bs w F v l) : (convert 27 9 v).run Try.prog w = .ok (.string (strOf l)) w :=
  run_bytes_string h Try.underlying27 Try.underlying5 Try.underlying9

theorem fits5 : Fits Try.prog 27 5 byteC.size 1 := fits_of Try.underlying27 (by decide) (by kernel_rfl : (Try.prog.info? 5).map (fun i => (i.zero, i.size, i.bytes)) = some (some (.int .u8 0), 1, 1)) rfl

set_option maxHeartbeats 400000 in
theorem r1_same (w : World) {F G : Nat → Prop} {a b : Value} {la lb : List UInt8} (ha : Bs w F a la) (hb : Bs w G b lb) :
    Calls Try.prog 74 #[a, b] w fun e w' => e = .returned (.bool (la == lb)) ∧ w = w' := by
  have h1 := bs_string ha
  have h2 := bs_string hb
  have h3 := strOf_toList
  clear ha hb
  go_enter Try.func74, Try.ntmps74
  go_wp2
  go_ret
  exact ⟨rfl, rfl⟩

set_option maxHeartbeats 400000 in
theorem bytes_equal (w : World) {F G : Nat → Prop} {a b : Value} {la lb : List UInt8} (ha : Bs w F a la) (hb : Bs w G b lb) :
    Calls Try.prog 138 #[a, b] w fun e w' => e = .returned (.bool (la == lb)) ∧ w = w' := by
  have h1 := bs_string ha
  have h2 := bs_string hb
  have h3 := strOf_toList
  clear ha hb
  go_enter Try.func138, Try.ntmps138
  go_wp2
  go_ret
  exact ⟨rfl, rfl⟩

set_option maxHeartbeats 400000 in
theorem r1_less (w : World) {F G : Nat → Prop} {a b : Value} {la lb : List UInt8} (ha : Bs w F a la) (hb : Bs w G b lb) :
    Calls Try.prog 82 #[a, b] w fun e w' => e = .returned (.bool (Op.bytesLess la lb)) ∧ w = w' := by
  have h1 := bs_string ha
  have h2 := bs_string hb
  have h3 := strOf_toList
  clear ha hb
  go_enter Try.func82, Try.ntmps82
  go_wp2
  go_ret
  exact ⟨rfl, rfl⟩

/-- A fresh copy. -/
def Copied (w : World) (l : List UInt8) (e : Ending) (w' : World) : Prop := ∃ v, e = .returned v ∧ Ext w w' ∧ Bs w' (fun b => w.heap.size ≤ b) v l

theorem copied_of {w w' : World} {v : Value} {l : List UInt8} (hl : l.length ≤ big) (h1 : Own byteC 5 w' w.heap.size (fun _ => True) v ([] ++ l))
    (h2 : Out (fun k => (Value.slice (some ⟨w.heap.size, 0, none⟩) 0 0).ownBlock = some k) (w.alloc (.cells #[] 5)) w') : Copied w l (.returned v) w' := by
  refine ⟨v, rfl, ((Out.refl _ w).alloc _).then h2 fun i hi h => ?_, ?_⟩
  · simp [Value.ownBlock] at h; omega
  · have h3 := h1.sl (G := fun b => True) (by decide) (by show ([] ++ l).length ≤ 140737488355328; simp; exact hl) (fun _ _ _ => trivial) (fun _ _ _ => trivial)
    obtain ⟨A, cap, hv, g1, g2, g3, g4, g5⟩ := h3
    refine ⟨A, cap, by simpa using hv, by simpa using g1, g2, by simpa using g3, g4, fun i hi => ?_⟩
    obtain ⟨b, off, cs, hA, _, hat, hr⟩ := g5 i (by simpa using hi)
    exact ⟨b, off, cs, hA, (h1.lt b (by rw [hv, hA]; rfl)).1, hat, (by have hr' : byteC.rep w' (fun b => True) cs ([] ++ l)[i] := hr; simpa [byteC] using hr')⟩

set_option maxHeartbeats 400000 in
theorem r1_copy (w : World) {F : Nat → Prop} {a : Value} {la : List UInt8} (ha : Bs w F a la) :
    Calls Try.prog 80 #[a] w (Copied w la) := by
  have hl : la.length ≤ big := let ⟨_, _, _, _, _, h, _⟩ := ha; h
  have ho : Own byteC 5 (w.alloc (.cells #[] 5)) w.heap.size (fun _ => True) (.slice (some ⟨w.heap.size, 0, none⟩) 0 0) [] := Own.empty _ _ _ _
  have ha' := ha.ext ((Out.refl _ w).alloc (.cells #[] 5))
  go_enter Try.func80, Try.ntmps80
  go_wp2_with (at_builtin; refine wpList_append_sl rfl (.tmp 3) (.tmp 4) 27 rfl fits5 ho rfl (by simp) ha' rfl (fun _ _ _ h => h) (by simp; unfold big at *; omega) (by decide) ?_; intro v' w' h1 h2 h3)
  go_ret
  exact copied_of hl h1 h2

set_option maxHeartbeats 400000 in
theorem bytes_clone (w : World) {F : Nat → Prop} {a : Value} {la : List UInt8} (ha : Bs w F a la) :
    Calls Try.prog 122 #[a] w (Copied w la) := by
  have hl : la.length ≤ big := let ⟨_, _, _, _, _, h, _⟩ := ha; h
  have ho : Own byteC 5 (w.alloc (.cells #[] 5)) w.heap.size (fun _ => True) (.slice (some ⟨w.heap.size, 0, none⟩) 0 0) [] := Own.empty _ _ _ _
  have ha' := ha.ext ((Out.refl _ w).alloc (.cells #[] 5))
  obtain ⟨b, hb, hg, h0⟩ := ha.eqlNil Try.underlying27
  cases b
  · clear h0
    go_enter Try.func122, Try.ntmps122
    go_wp2_with (at_builtin; refine wpList_append_sl rfl (.tmp 5) (.tmp 6) 27 rfl fits5 ho rfl (by simp) ha' rfl (fun _ _ _ h => h) (by simp; unfold big at *; omega) (by decide) ?_; intro v' w' h1 h2 h3)
    go_ret
    exact copied_of hl h1 h2
  · have hn := h0 rfl
    subst hn
    clear h0
    go_enter Try.func122, Try.ntmps122
    go_wp2
    go_ret
    exact ⟨_, rfl, Out.refl _ w, Sl.nil _ _ _⟩

set_option maxHeartbeats 400000 in
theorem r1_cut (w : World) {F : Nat → Prop} {a : Value} {la : List UInt8} (ha : BsA w F a la) (n : Nat) (hn : n ≤ 1000000) :
    Calls Try.prog 77 #[a, .int .i64 n] w (Copied w (la.take n)) := by
  have ho : Own byteC 5 (w.alloc (.cells #[] 5)) w.heap.size (fun _ => True) (.slice (some ⟨w.heap.size, 0, none⟩) 0 0) [] := Own.empty _ _ _ _
  have ha' := ha.ext ((Out.refl _ w).alloc (.cells #[] 5))
  obtain ⟨A, cap, rfl, h1, h2, h3, h4⟩ := ha.form
  unfold maxLen at h2
  have h5 : la.length ≤ 9223372036854775807 := h3
  by_cases hlt : n < la.length
  · have hle : (la.take n).length = n := List.length_take_of_le (by omega)
    have hs := Sl.ofA (ha'.take n (by omega)) (by rw [hle]; unfold big; omega)
    have Hle := Lib.hid hle
    clear ha ha' h3 h4 hle
    go_enter Try.func77, Try.ntmps77
    go_wp2_with (at_builtin; refine wpList_append_sl rfl (.tmp 5) (.tmp 11) 27 rfl fits5 ho rfl (by simp) hs rfl (fun _ _ _ h => h) (by rw [Hle.out]; simp; omega) (by decide) ?_; intro v' w' h1 h2 h3)
    go_ret
    exact copied_of (by rw [Hle.out]; unfold big; omega) h1 h2
  · have hs := ha'.take la.length (Nat.le_refl _)
    rw [List.take_length] at hs
    have hs := Sl.ofA hs (by unfold big; omega)
    rw [List.take_of_length_le (by omega)]
    clear ha ha' h3 h4
    go_enter Try.func77, Try.ntmps77
    go_wp2_with (at_builtin; refine wpList_append_sl rfl (.tmp 5) (.tmp 11) 27 rfl fits5 ho rfl (by simp) hs rfl (fun _ _ _ h => h) (by simp; omega) (by decide) ?_; intro v' w' h1 h2 h3)
    go_ret
    exact copied_of (by unfold big; omega) h1 h2
end Go.Proofs.Yteaanagljmcidaa
namespace Go.Proofs.Yteaanagljmcidaa
open Go.RowKit

theorem byteArray_push_foldl (l : List UInt8) : ∀ s : ByteArray, l.foldl ByteArray.push s = ⟨s.data ++ l.toArray⟩ := by
  induction l with
  | nil => intro s; simp
  | cons b l ih => intro s; rw [List.foldl_cons, ih]; simp [ByteArray.push]

theorem run_loadBytes {P : Program} {w : World} {b : Nat} : ∀ (l : List UInt8) (off : Nat) (acc : ByteArray), (∀ i (h : i < l.length), w.cell? ⟨b, off + i, none⟩ = some (byteV l[i])) →
    (Extern.Bytes.loadBytes ⟨b, off, none⟩ l.length acc).run P w = .ok (l.foldl ByteArray.push acc) w
  | [], off, acc, _ => by simp [Extern.Bytes.loadBytes]
  | x :: l, off, acc, h => by
    have h0 := h 0 (by simp)
    simp only [Nat.add_zero, List.getElem_cons_zero] at h0
    have hl : (load ⟨b, off, none⟩).run P w = .ok (byteV x) w := by simp [go_sem, h0]
    have ih := run_loadBytes (P := P) (w := w) (b := b) l (off + 1) (acc.push x) (fun i hi => by
      have := h (i + 1) (by simp; omega)
      simp only [List.getElem_cons_succ] at this
      rw [← this]; congr 2; omega)
    have ha : (⟨b, off, none⟩ : Addr).add 1 = ⟨b, off + 1, none⟩ := by simp [Addr.add]
    simp only [List.length_cons, Extern.Bytes.loadBytes, Sem.run_bind, hl, Result.andThen_ok, byteV, ha, List.foldl_cons]
    have hx : x.toNat.toUInt8 = x := by simp
    simp only [Int.toNat_natCast, hx]
    exact ih

theorem run_bytesOf {P : Program} {w : World} {F : Nat → Prop} {v : Value} {l : List UInt8} (h : Bs w F v l) : (Extern.Bytes.bytesOf v).run P w = .ok (strOf l) w := by
  obtain ⟨A, cap, rfl, h1, h2, h3, h4⟩ := h.form
  rcases A with _ | ad
  · have h0 := h4 rfl
    have hn : l = [] := List.eq_nil_of_length_eq_zero (by omega)
    subst hn
    simp [Extern.Bytes.bytesOf, strOf]; rfl
  · rcases Nat.eq_zero_or_pos l.length with h0 | h0
    · have hn : l = [] := List.eq_nil_of_length_eq_zero h0
      subst hn
      simp [Extern.Bytes.bytesOf, Extern.Bytes.loadBytes, strOf]; rfl
    · obtain ⟨b, off, hA, _, hat⟩ := Bs.cells h h0
      injection hA with hA
      subst hA
      have := run_loadBytes (P := P) l off .empty (fun i hi => hat i (byteV l[i]) (by simp [List.getElem?_eq_getElem hi]))
      simp only [Extern.Bytes.bytesOf]
      rw [this, byteArray_push_foldl]
      simp [strOf, ByteArray.empty, ByteArray.emptyWithCapacity]
      rfl

theorem find_range_shift (p : Nat → Bool) (n : Nat) : (List.range (n + 1)).find? p = if p 0 then some 0 else ((List.range n).find? fun i => p (i + 1)).map (· + 1) := by
  rw [List.range_succ_eq_map, List.find?_cons, List.find?_map]
  cases p 0 <;> simp [Function.comp_def]

theorem strOf_size (l : List UInt8) : (strOf l).size = l.length := by simp [strOf, ByteArray.size]

theorem strOf_get (l : List UInt8) (i : Nat) : (strOf l)[i]! = l.getD i 0 := by
  by_cases h : i < l.length
  · have h' : i < (strOf l).size := by rw [strOf_size]; exact h
    rw [getElem!_pos (strOf l) i h']
    show l.toArray[i] = _
    simp [List.getD, h]
    rfl
  · have h' : ¬ i < (strOf l).size := by rw [strOf_size]; exact h
    rw [getElem!_neg (strOf l) i h']
    simp [List.getD, h]
    rfl

theorem cmp_bcmp : ∀ a b : List UInt8, Extern.BytealgCompare.cmp (strOf a) (strOf b) = bcmp a b := by
  have key : ∀ a b : List UInt8, (match (List.range (min a.length b.length)).find? (fun i => a.getD i 0 != b.getD i 0) with
      | some i => if a.getD i 0 < b.getD i 0 then (-1 : Int) else 1
      | none => if a.length < b.length then -1 else if a.length > b.length then 1 else 0) = bcmp a b := by
    intro a
    induction a with
    | nil => intro b; cases b <;> simp [bcmp]
    | cons x a ih =>
      intro b
      cases b with
      | nil => simp [bcmp]
      | cons y b =>
        rw [List.length_cons, List.length_cons, Nat.succ_min_succ, find_range_shift]
        unfold bcmp
        simp only [List.getD_cons_zero, List.getD_cons_succ]
        by_cases hxy : x = y
        · subst hxy
          have ih' := ih b
          simp only [bne_self_eq_false, Bool.false_eq_true, if_false, UInt8.lt_irrefl]
          rw [← ih']
          cases hf : (List.range (min a.length b.length)).find? (fun i => a.getD i 0 != b.getD i 0) with
          | none => simp
          | some i => simp
        · have hne : (x != y) = true := by simpa using hxy
          simp only [hne, if_true, List.getD_cons_zero]
          by_cases hlt : x < y
          · simp [hlt]
          · have : y < x := by
              rcases UInt8.lt_or_lt_of_ne hxy with h | h
              · exact absurd h hlt
              · exact h
            simp [hlt, this]
  intro a b
  rw [← key a b]
  unfold Extern.BytealgCompare.cmp
  simp only [strOf_size, strOf_get]
  cases (List.range (min a.length b.length)).find? (fun i => a.getD i 0 != b.getD i 0) <;> rfl

theorem run_bytealg_compare {w : World} {F G : Nat → Prop} {a b : Value} {la lb : List UInt8} (ha : Bs w F a la) (hb : Bs w G b lb) :
    (callFunc 169 #[a, b]).run Try.prog w = .ok (.value (.int .i64 (bcmp la lb))) w := by
  rw [run_callFunc_extern (e := Extern.BytealgCompare.compare) Try.func169 (by kernel_rfl) (by kernel_rfl) (by kernel_rfl) (by kernel_rfl)]
  have hc : (Extern.BytealgCompare.compare #[a, b]).run Try.prog w = .ok (.int .i64 (bcmp la lb)) w := by
    change Sem.run Try.prog (do
      let x ← Extern.Bytes.bytesOf a
      let y ← Extern.Bytes.bytesOf b
      pure (goInt (Extern.BytealgCompare.cmp x y))) w = _
    simp only [Sem.run_bind, run_bytesOf ha, run_bytesOf hb, Result.andThen_ok, Sem.run_pure, cmp_bcmp]
    rfl
  rw [hc]; rfl

set_option maxHeartbeats 400000 in
theorem bytes_compare (w : World) {F G : Nat → Prop} {a b : Value} {la lb : List UInt8} (ha : Bs w F a la) (hb : Bs w G b lb) :
    Calls Try.prog 150 #[a, b] w fun e w' => e = .returned (.int .i64 (bcmp la lb)) ∧ w = w' := by
  have h1 := run_bytealg_compare ha hb
  clear ha hb
  go_enter Try.func150, Try.ntmps150
  go_wp2
  go_ret
  exact ⟨rfl, rfl⟩

set_option maxHeartbeats 400000 in
theorem atom_less (w : World) {F G : Nat → Prop} {a b : Value} {la lb : List UInt8} (ha : Bs w F a la) (hb : Bs w G b lb) :
    Calls Try.prog 128 #[a, b] w fun e w' => e = .returned (.bool (Op.bytesLess la lb)) ∧ w = w' := by
  have h2 := bcmp_neg la lb
  go_enter Try.func128, Try.ntmps128
  go_wp2_with (go_at_call 150; refine (bytes_compare _ ha hb).mono ?_; rintro e w' ⟨rfl, rfl⟩)
  go_ret
  exact ⟨rfl, rfl⟩

/-- -1, 0, 1. -/
def ncmp (x y : Nat) : Int := if x < y then -1 else if y < x then 1 else 0

set_option maxHeartbeats 400000 in
theorem cmp_u64 (w : World) (x y : Nat) : Calls Try.prog 151 #[.int .u64 x, .int .u64 y] w fun e w' => e = .returned (.int .i64 (ncmp x y)) ∧ w = w' := by
  unfold ncmp
  by_cases h1 : x < y
  · simp only [h1, if_true]
    have h1' : (x : Int) < y := by omega
    go_enter Try.func151, Try.ntmps151
    go_wp2
    go_ret
    exact ⟨rfl, rfl⟩
  · by_cases h2 : y < x
    · simp only [h1, h2, if_true, if_false]
      have h2' : (y : Int) < x := by omega
      go_enter Try.func151, Try.ntmps151
      go_wp2
      go_ret
      exact ⟨rfl, rfl⟩
    · simp only [h1, h2, if_false]
      go_enter Try.func151, Try.ntmps151
      go_wp2
      go_ret
      exact ⟨rfl, rfl⟩

set_option maxHeartbeats 400000 in
theorem cmp_u8 (w : World) (x y : Nat) : Calls Try.prog 152 #[.int .u8 x, .int .u8 y] w fun e w' => e = .returned (.int .i64 (ncmp x y)) ∧ w = w' := by
  unfold ncmp
  by_cases h1 : x < y
  · simp only [h1, if_true]
    have h1' : (x : Int) < y := by omega
    go_enter Try.func152, Try.ntmps152
    go_wp2
    go_ret
    exact ⟨rfl, rfl⟩
  · by_cases h2 : y < x
    · simp only [h1, h2, if_true, if_false]
      have h2' : (y : Int) < x := by omega
      go_enter Try.func152, Try.ntmps152
      go_wp2
      go_ret
      exact ⟨rfl, rfl⟩
    · simp only [h1, h2, if_false]
      go_enter Try.func152, Try.ntmps152
      go_wp2
      go_ret
      exact ⟨rfl, rfl⟩

/-- cmp.Or of three. -/
def or3 (x y z : Int) : Int := if x ≠ 0 then x else if y ≠ 0 then y else z

set_option maxHeartbeats 400000 in
theorem cmp_or (w : World) (b : Nat) (x y z : Int) (h0 : w.cell? ⟨b, 0, none⟩ = some (.int .i64 x)) (h1 : w.cell? ⟨b, 1, none⟩ = some (.int .i64 y)) (h2 : w.cell? ⟨b, 2, none⟩ = some (.int .i64 z)) :
    Calls Try.prog 149 #[.slice (some ⟨b, 0, none⟩) 3 3] w fun e w' => e = .returned (.int .i64 (or3 x y z)) ∧ w = w' := by
  unfold or3
  by_cases hx : x = 0
  · subst hx
    by_cases hy : y = 0
    · subst hy
      by_cases hz : z = 0
      · subst hz
        go_enter Try.func149, Try.ntmps149
        go_wp2
        go_rounds 4
        go_ret
        exact ⟨rfl, rfl⟩
      · have hz' : (z != 0) = true := by simpa using hz
        simp only [ne_eq, not_true_eq_false, if_false]
        clear hz
        go_enter Try.func149, Try.ntmps149
        go_wp2
        go_rounds 4
        go_ret
        exact ⟨rfl, rfl⟩
    · have hy' : (y != 0) = true := by simpa using hy
      simp only [ne_eq, not_true_eq_false, if_false, hy, not_false_eq_true, if_true]
      clear hy
      go_enter Try.func149, Try.ntmps149
      go_wp2
      go_rounds 4
      go_ret
      exact ⟨rfl, rfl⟩
  · have hx' : (x != 0) = true := by simpa using hx
    simp only [ne_eq, hx, not_false_eq_true, if_true]
    clear hx
    go_enter Try.func149, Try.ntmps149
    go_wp2
    go_rounds 4
    go_ret
    exact ⟨rfl, rfl⟩
end Go.Proofs.Yteaanagljmcidaa
namespace Go.Proofs.Yteaanagljmcidaa
open Go.RowKit

attribute [local go_sem ↓] Go.wp_at_zero Go.wp_at_succ

/-- The order of versions. -/
def kcmp (a b : Key) : Int := or3 (bcmp a.user b.user) (ncmp b.seq.toNat a.seq.toNat) (ncmp b.kind.toNat a.kind.toNat)

set_option maxHeartbeats 1000000 in
theorem ikey_compare (w : World) {F G : Nat → Prop} {u v : Value} (a b : Key) (hu : Bs w F u a.user) (hv : Bs w G v b.user) :
    Calls Try.prog 98 #[.agg #[u, u64V a.seq, byteV a.kind], .agg #[v, u64V b.seq, byteV b.kind]] w fun e w' => e = .returned (.int .i64 (kcmp a b)) ∧ Ext w w' := by
  have hx : Ext w ((w.alloc (.cells #[u, u64V a.seq, byteV a.kind] 30)).alloc (.cells #[v, u64V b.seq, byteV b.kind] 30)) := ((Out.refl _ w).alloc _).alloc _
  have hu' := (hu.ext hx)
  have hv' := (hv.ext hx)
  go_enter Try.func98, Try.ntmps98
  go_wp2
  go_region_held3 (fun w' => w'.cell? ⟨w.heap.size, 0, none⟩ = some u ∧ w'.cell? ⟨w.heap.size, 1, none⟩ = some (.int .u64 a.seq.toNat) ∧ w'.cell? ⟨w.heap.size, 2, none⟩ = some (.int .u8 a.kind.toNat) ∧
      w'.cell? ⟨w.heap.size + 1, 0, none⟩ = some v ∧ w'.cell? ⟨w.heap.size + 1, 1, none⟩ = some (.int .u64 b.seq.toNat) ∧ w'.cell? ⟨w.heap.size + 1, 2, none⟩ = some (.int .u8 b.kind.toNat)) (go_keep)
    (first | (go_at_call 150; refine (bytes_compare _ (F := F) (G := G) (la := a.user) (lb := b.user) ?_ ?_).mono ?_; (exact hu'); (exact hv'); rintro e w' ⟨rfl, rfl⟩) | (go_at_call 151; refine (cmp_u64 _ _ _).mono ?_; rintro e w' ⟨rfl, rfl⟩) | (go_at_call 152; refine (cmp_u8 _ _ _).mono ?_; rintro e w' ⟨rfl, rfl⟩) | (go_at_call 149; refine (cmp_or _ _ (bcmp a.user b.user) (ncmp b.seq.toNat a.seq.toNat) (ncmp b.kind.toNat a.kind.toNat) ?_ ?_ ?_).mono ?_; (simp [go_sem]); (simp [go_sem]); (simp [go_sem]); rintro e w' ⟨rfl, rfl⟩))
  go_wp2
  go_ret
  exact ⟨rfl, (((((Out.refl _ w).alloc _).alloc _).alloc _)).drew⟩

/-- ikey.Check's answer. -/
def icheckI (s k n : Int) : Int := if 72057594037927935 < s ∨ (k ≠ 1 ∧ k ≠ 2) then 1 else if n = 0 then 2 else if 64 < n then 3 else 0

theorem ret_of {k : IntKind} {a b : Int} (h : a = b) : Ending.returned (.int k a) = .returned (.int k b) := by rw [h]
theorem retb_of {a b : Bool} (h : a = b) : Ending.returned (.bool a) = .returned (.bool b) := by rw [h]

set_option maxHeartbeats 1000000 in
theorem ikey_checkI (w : World) (A : Option Addr) (n c : Nat) (s k : Int) :
    Calls Try.prog 96 #[.agg #[.slice A n c, .int .u64 s, .int .u8 k]] w fun e w' => e = .returned (.int .i64 (icheckI s k n)) ∧ Ext w w' := by
  go_enter Try.func96, Try.ntmps96
  go_wp2
  all_goals
    go_ret
    refine ⟨ret_of ?_, (Out.refl _ w).alloc _⟩
    unfold icheckI
    simp only [beq_iff_eq, bne_iff_ne, beq_eq_false_iff_ne, bne_eq_false_iff_eq, ne_eq] at *
    first | omega | (repeat' split) <;> omega

set_option maxHeartbeats 1000000 in
theorem r3_checkI (w : World) (A : Option Addr) (n c : Nat) (s k : Int) (hk : 0 ≤ k) :
    Calls Try.prog 102 #[.agg #[.slice A n c, .int .u64 s, .int .u8 k]] w fun e w' => e = .returned (.int .i64 (icheckI s k n)) ∧ Ext w w' := by
  go_enter Try.func102, Try.ntmps102
  go_wp2
  all_goals go_ret
  all_goals
    refine ⟨ret_of ?_, (Out.refl _ w).alloc _⟩
    unfold icheckI
    simp only [beq_iff_eq, beq_eq_false_iff_ne, ne_eq] at *
    first | omega | (repeat' split) <;> omega
end Go.Proofs.Yteaanagljmcidaa
namespace Go.Proofs.Yteaanagljmcidaa
open Go.RowKit

theorem Own.baseM {α : Type} {c : Codec α} {e : TypeId} {w : World} {B B' : Nat} {G : Nat → Prop} {v : Value} {l : List α} (h : Own c e w B G v l) (hB : B' ≤ B) : Own c e w B' G v l := by
  obtain ⟨xs, ⟨h1, h2⟩, he⟩ := h
  refine ⟨xs, ⟨h1, ?_⟩, he⟩
  rcases h2 with h2 | ⟨g, cap, cur, h3, h4, h5⟩
  · exact .inl h2
  · exact .inr ⟨g, cap, cur, h3, Nat.le_trans hB h4, h5⟩
/-- A list of the call's own comes back. -/
def OwnedM {α : Type} (c : Codec α) (e : TypeId) (w : World) (l : List α) (x : Ending) (w' : World) : Prop := ∃ v, x = .returned v ∧ Ext w w' ∧ Own c e w' w.heap.size (fun b => w.heap.size ≤ b) v l
def zeroM : Ent := ⟨⟨[], 0, 0⟩, []⟩
/-- An entry of its own comes back, or none. -/
def ToldM (w : World) (o : Option Ent) (x : Ending) (w' : World) : Prop :=
  ∃ u v, x = .returned (.tuple #[.agg #[u, u64V (o.getD zeroM).key.seq, byteV (o.getD zeroM).key.kind, v], .bool o.isSome]) ∧ Ext w w' ∧ Bs w' (fun b => w.heap.size ≤ b) u (o.getD zeroM).key.user ∧ Bs w' (fun b => w.heap.size ≤ b) v (o.getD zeroM).value
theorem toldM_none (w w' : World) (h : Ext w w') : ToldM w none (.returned (.tuple #[.agg #[.slice none 0 0, .int .u64 0, .int .u8 0, .slice none 0 0], .bool false])) w' :=
  ⟨_, _, rfl, h, Sl.nil _ _ _, Sl.nil _ _ _⟩
theorem Sl.belowM {α : Type} {c : Codec α} {w : World} {F : Nat → Prop} {v : Value} {l : List α} (h : Sl c w F v l) (hs : 0 < c.size) : Sl c w (fun b => F b ∧ b < w.heap.size) v l := h.mono (fun _ hb hl => ⟨hb, hl⟩) (.inl hs)
theorem Sl.dropM {α : Type} {c : Codec α} {w : World} {F : Nat → Prop} {A : Option Addr} {n cap : Nat} {l : List α} (h : Sl c w F (.slice A n cap) l) (k : Nat) (hk : k ≤ l.length) : Sl c w F (.slice (if cap = k then A else A.map (·.add (k * c.size))) (n - k) (cap - k)) (l.drop k) := by
  obtain ⟨A', cap', hv, h1, h2, h3, h4, h5⟩ := h
  injection hv with e1 e2 e3
  subst e1 e2 e3
  refine ⟨_, _, by rw [List.length_drop], by rw [List.length_drop]; omega, by omega, by rw [List.length_drop]; omega, fun hn => ?_, fun i hi => ?_⟩
  · by_cases he : cap = k
    · omega
    · rw [if_neg he] at hn
      have := h4 (Option.map_eq_none_iff.1 hn); omega
  · rw [List.length_drop] at hi
    obtain ⟨b, off, cs, hA, hb, hat, hr⟩ := h5 (k + i) (by omega)
    refine ⟨b, off + k * c.size, cs, ?_, hb, ?_, by rw [List.getElem_drop]; exact hr⟩
    · rw [if_neg (by omega), hA]; simp [Addr.add]
    · have e : off + k * c.size + i * c.size = off + (k + i) * c.size := by rw [Nat.add_mul, Nat.add_assoc]
      rw [e]; exact hat
def icheckM (k : Key) : Int := icheckI k.seq.toNat k.kind.toNat k.user.length
theorem key_checkM (w : World) {F : Nat → Prop} {u : Value} (k : Key) (hu : Bs w F u k.user) : Calls Try.prog 102 #[.agg #[u, u64V k.seq, byteV k.kind]] w fun e w' => e = .returned (.int .i64 (icheckM k)) ∧ Ext w w' := by
  obtain ⟨A, cap, rfl, _⟩ := hu.form
  exact r3_checkI w A k.user.length cap k.seq.toNat k.kind.toNat (by omega)
end Go.Proofs.Yteaanagljmcidaa
namespace Go.Proofs.Yteaanagljmcidaa
open Go.RowKit
variable {P : Program} {ops : Array Oper} {Q : Exit → Act → World → Prop} {md : Region.Mode} {S : World → Prop} {b : Nat}

/-- Whatever order is picked; S holds behind each operation but b. -/
def AnyB (P : Program) (md : Region.Mode) (ops : Array Oper) (Q : Exit → Act → World → Prop) (S : World → Prop) (b : Nat) : Nat → Array Bool → Act → World → Prop
  | 0, listed, a, w => Region.ready md ops listed = [] ∧ Q .normal a w
  | fuel + 1, listed, a, w =>
    (Region.ready md ops listed = [] → Q .normal a w) ∧
    ∀ i ∈ Region.ready md ops listed, wpOp P ops Q i (fun a' w' => (i ≠ b → S w') ∧ AnyB P md ops Q S b fuel (listed.setIfInBounds i true) a' w') a w

theorem any_of_B : ∀ (fuel : Nat) (listed : Array Bool) (a : Act) (w : World), AnyB P md ops Q S b fuel listed a w → wpAny P md ops Q fuel listed a w
  | 0, _, _, _, h => h
  | fuel + 1, _, _, _, h => ⟨h.1, fun i hi => wpOp_mono (fun a' w' h' => any_of_B fuel _ a' w' h'.2) (h.2 i hi)⟩

/-- b waits for i. -/
def waits (md : Region.Mode) (ops : Array Oper) (b i : Nat) : Bool := match ops[b]? with
  | none => true
  | some ob => ob.after.any fun e => Region.binds md e && e.on == i

theorem waits_spec {i : Nat} {listed : Array Bool} (h : waits md ops b i = true) (hi : listed.getD i false = false) : b ∉ Region.ready md ops listed := fun hb => by
  obtain ⟨_, ob, hob, hall⟩ := mem_ready.1 hb
  unfold waits at h
  simp only [hob, Array.any_eq_true'] at h
  obtain ⟨e, he, h2⟩ := h
  simp only [Bool.and_eq_true, beq_iff_eq] at h2
  have := hall e he h2.1
  rw [h2.2, hi] at this
  cases this

theorem anyB_first {i : Nat} {oi : Oper} {v : Value} (hi : ops[i]? = some oi) (hib : waits md ops b i = true) (hsel : ∀ (j : Nat) (o : Oper) cs b, ops[j]? = some o → o.op ≠ .select cs b)
    (hQ : ∀ c a w, Q (.panic c) (a.put oi.dst v) w → Q (.panic c) a w) :
    ∀ (fuel : Nat) (listed : Array Bool) (a : Act) (w : World),
      (∀ j oj, ops[j]? = some oj → j ≠ i → listed.getD j true = false → (∀ e ∈ oj.after, Region.binds md e = true → e.on ≠ i) → oi.apart ops oj = true) →
      i ∈ Region.ready md ops listed → YieldsIf P ops S oi v a → S w →
      AnyB P md ops Q S b fuel (listed.setIfInBounds i true) (a.put oi.dst v) w → AnyB P md ops Q S b (fuel + 1) listed a w := by
  intro fuel
  induction fuel with
  | zero =>
    intro listed a w _ hr hy hS H
    refine ⟨fun h => (by rw [h] at hr; cases hr), fun j hj => ?_⟩
    by_cases hji : j = i
    · subst hji; exact hy.wpOp hi hS ⟨fun _ => hS, H⟩
    · have := ready_mono hj hji
      rw [H.1] at this
      cases this
  | succ fuel ih =>
    intro listed a w hfree hr hy hS H
    refine ⟨fun h => (by rw [h] at hr; cases hr), fun j hj => ?_⟩
    by_cases hji : j = i
    · subst hji; exact hy.wpOp hi hS ⟨fun _ => hS, H⟩
    · have h1 := H.2 j (ready_mono hj hji)
      obtain ⟨hjun, oj, hoj, hall⟩ := mem_ready.1 hj
      have hiF : listed.getD i false = false := by
        have h0 := (mem_ready.1 hr).1
        rcases Nat.lt_or_ge i listed.size with h' | h'
        · simp [h'] at h0 ⊢; exact h0
        · simp [Array.getElem?_eq_none h'] at h0
      have hjb : j ≠ b := fun e => waits_spec (listed := listed) hib hiF (e ▸ hj)
      have hnot : ∀ e ∈ oj.after, Region.binds md e = true → e.on ≠ i := fun e he hb heq => by
        have h1 := hall e he hb
        rw [heq, hiF] at h1
        cases h1
      have h2 := wpOp_putIf hoj (hfree j oj hoj hji hjun hnot) (fun cs b => hsel i oi cs b hi) (fun cs b => hsel j oj cs b hoj) hQ hy h1
      have hfree' : ∀ k ok, ops[k]? = some ok → k ≠ i → (listed.setIfInBounds j true).getD k true = false →
          (∀ e ∈ ok.after, Region.binds md e = true → e.on ≠ i) → oi.apart ops ok = true := fun k ok hk hki hun hno => by
        refine hfree k ok hk hki ?_ hno
        by_cases hjk : j = k
        · subst hjk; exact hjun
        · rw [getD_set_ne true hjk] at hun; exact hun
      refine wpOp_mono (fun a' w' h3 => ⟨h3.2.1, ih (listed.setIfInBounds j true) a' w' hfree' (ready_mono hr (Ne.symm hji)) h3.1 (h3.2.1 hjb) ?_⟩) h2
      rw [Array.setIfInBounds_comm _ _ hji]
      exact h3.2.2

theorem anyB_take {i : Nat} {oi : Oper} {v : Value} {fuel : Nat} {listed : Array Bool} {a : Act} {w : World} (hi : ops[i]? = some oi) (hib : waits md ops b i = true)
    (hs : Region.noSelect ops = true) (hf : Region.free md ops listed i = true) (hr : (Region.ready md ops listed).contains i = true)
    (hQ : ∀ c a w, Q (.panic c) (a.put oi.dst v) w → Q (.panic c) a w) (hy : YieldsIf P ops S oi v a) (hS : S w)
    (h : AnyB P md ops Q S b fuel (listed.setIfInBounds i true) (a.put oi.dst v) w) : AnyB P md ops Q S b (fuel + 1) listed a w :=
  anyB_first hi hib (Region.noSelect_spec hs) hQ fuel listed a w (Region.free_spec hi hf) (by simpa using hr) hy hS h

/-- Only number i may come up, and it is not the last. -/
theorem anyB_step {fuel : Nat} {listed : Array Bool} {a : Act} {w : World} {i : Nat} {o : Oper} (hr : Region.ready md ops listed = [i]) (hb : (i == b) = false) (ho : ops[i]? = some o)
    (h : ∀ K' : Act → World → Prop, Shut (∀ a w, S w → (S w → AnyB P md ops Q S b fuel (listed.setIfInBounds i true) a w) → K' a w) → if Region.wanted o (yielded ops a.tmps) = true then Oper.wp P o a w K' Q else K' (a.put o.dst undef) w) :
    AnyB P md ops Q S b (fuel + 1) listed a w :=
  ⟨fun h0 => (by rw [hr] at h0; cases h0), fun j hj => by
    rw [hr] at hj
    obtain rfl := List.mem_singleton.1 hj
    exact wpOp_step ho (fun K' hK => h K' (fun a w hS hW => hK a w ⟨fun _ => hS, hW hS⟩))⟩
/-- Two numbers may come up, neither is the last. -/
theorem anyB_two {fuel : Nat} {listed : Array Bool} {a : Act} {w : World} {i j : Nat} {oi oj : Oper} (hr : Region.ready md ops listed = [i, j]) (hbi : (i == b) = false) (hbj : (j == b) = false) (hoi : ops[i]? = some oi) (hoj : ops[j]? = some oj)
    (hi : ∀ K' : Act → World → Prop, Shut (∀ a w, S w → (S w → AnyB P md ops Q S b fuel (listed.setIfInBounds i true) a w) → K' a w) → if Region.wanted oi (yielded ops a.tmps) = true then Oper.wp P oi a w K' Q else K' (a.put oi.dst undef) w)
    (hj : ∀ K' : Act → World → Prop, Shut (∀ a w, S w → (S w → AnyB P md ops Q S b fuel (listed.setIfInBounds j true) a w) → K' a w) → if Region.wanted oj (yielded ops a.tmps) = true then Oper.wp P oj a w K' Q else K' (a.put oj.dst undef) w) :
    AnyB P md ops Q S b (fuel + 1) listed a w :=
  ⟨fun h0 => (by rw [hr] at h0; cases h0), fun k hk => by
    rw [hr] at hk
    rcases List.mem_cons.1 hk with rfl | hk
    · exact wpOp_step hoi (fun K' hK => hi K' (fun a w hS hW => hK a w ⟨fun _ => hS, hW hS⟩))
    · obtain rfl := List.mem_singleton.1 hk
      exact wpOp_step hoj (fun K' hK => hj K' (fun a w hS hW => hK a w ⟨fun _ => hS, hW hS⟩))⟩
theorem anyB_last {fuel : Nat} {listed : Array Bool} {a : Act} {w : World} {i : Nat} {o : Oper} (hr : Region.ready md ops listed = [i]) (hb : (i == b) = true) (ho : ops[i]? = some o)
    (h : ∀ K' : Act → World → Prop, Shut (∀ a w, AnyB P md ops Q S b fuel (listed.setIfInBounds i true) a w → K' a w) → if Region.wanted o (yielded ops a.tmps) = true then Oper.wp P o a w K' Q else K' (a.put o.dst undef) w) :
    AnyB P md ops Q S b (fuel + 1) listed a w :=
  ⟨fun h0 => (by rw [hr] at h0; cases h0), fun j hj => by
    rw [hr] at hj
    obtain rfl := List.mem_singleton.1 hj
    have hb' : j = b := by simpa using hb
    exact wpOp_step ho (fun K' hK => h K' (fun a w hW => hK a w ⟨fun hn => absurd hb' hn, hW⟩))⟩
theorem anyB_done {listed : Array Bool} {a : Act} {w : World} (hr : Region.ready md ops listed = []) (h : Q .normal a w) : ∀ fuel, AnyB P md ops Q S b fuel listed a w
  | 0 => ⟨hr, h⟩
  | _ + 1 => ⟨fun _ => h, by rw [hr]; simp⟩
/-- The beginning. -/
theorem region_B {id : Nat} {a : Act} {w : World} (b : Nat) (S : World → Prop) (hm : P.follows .mixedOrders = true) (hS : S w.drew)
    (h : S w.drew → AnyB P .any ops Q S b ops.size (Array.replicate ops.size false) a w.drew) : (Code.region id ops true).wp P Q a w :=
  wp_region_any hm (any_of_B _ _ _ _ (h hS))
theorem stp_append_sl {P : Program} {w : World} {ops : Array Oper} {o : Oper} {a : Act} {K : Act → World → Prop} {Q : Exit → Act → World → Prop} {E : Prop} (hgd : o.guard = none) (s x : Operand) (t : TypeId)
    (ho : o.op = .call { callee := .builtin .append, args := #[s, x], argTypes := #[t, t] })
    {α : Type} {c : Codec α} {e : TypeId} {bytes : Nat} (hf : Fits P t e c.size bytes) {B : Nat} {F : Nat → Prop} {v xv : Value} {l m : List α}
    (hown : Own c e w B F v l) (hs : a.eval s = v) (hB : B ≤ w.heap.size) {G : Nat → Prop} (hx : Sl c w G xv m) (hxv : a.eval x = xv)
    (hG : ∀ i (h : i < m.length) cs, c.rep w G cs m[i] → c.rep w (fun b => F b ∧ v.ownBlock ≠ some b) cs m[i]) (h63 : (l.length + m.length) * bytes ≤ 140737488355328) (hbp : 0 < bytes)
    (h : ∀ v' w', Own c e w' B F v' (l ++ m) → Out (fun k => v.ownBlock = some k) w w' → (v'.ownBlock = v.ownBlock ∨ v'.ownBlock = some w.heap.size) → K (a.put o.dst v') w') :
    if Region.wanted o (yielded ops a.tmps) = true then Oper.wp P o a w K Q else E := by
  rw [if_pos (by simp [Region.wanted, hgd])]
  obtain ⟨v', w', hr, h2, h3, h5⟩ := run_append_sl (P := P) (ty := o.type) hf hown hB hx hG h63 hbp
  unfold Oper.wp execOp
  simp only [ho, resolve, invoke, builtin, Sem.run_bind, Sem.run_pure, Result.andThen_ok, List.map_toArray, List.map_cons, List.map_nil, hs, hxv, hr]
  exact h v' w' h2 (Out.ofGrown h3) h5

end Go.Proofs.Yteaanagljmcidaa
namespace Go.Proofs.Yteaanagljmcidaa
open Go.RowKit

theorem setCell_same {w : World} {p : Addr} {u v : Value} (h : w.cell? p = some u) : (w.setCell p v).cell? p = some v := World.cell?_setCell_same w p v (by rw [h])
theorem setCell_other {w : World} {p q : Addr} {v : Value} (h : q ≠ p) : (w.setCell p v).cell? q = w.cell? q := World.cell?_setCell_other w p q v (fun e => h e.symm)

/-- A slice of bytes, whatever bytes: n of them. -/
def BsN (w : World) (F : Nat → Prop) (v : Value) (n : Nat) : Prop := ∃ l, l.length = n ∧ Bs w F v l

theorem Sl.poke {w : World} {F : Nat → Prop} {v : Value} {l : List UInt8} (h : Bs w F v l) {p : Addr} {x : UInt8} (hp : w.cell? p = some (byteV x)) (y : UInt8) : ∃ l' : List UInt8, l'.length = l.length ∧ Bs (w.setCell p (byteV y)) F v l' := by
  obtain ⟨A, cap, hv, h1, h2, h3, h4, h5⟩ := h
  have key : ∀ i (hi : i < l.length), ∃ z : UInt8, ∃ b off cs, A = some ⟨b, off, none⟩ ∧ F b ∧ At (w.setCell p (byteV y)) b (off + i * byteC.size) cs ∧ cs = [byteV z] := fun i hi => by
    obtain ⟨b, off, cs, hA, hF, hat, hr⟩ := h5 i hi
    have hr' : cs = [byteV l[i]] := hr
    subst hr'
    have hc := hat 0 _ rfl
    by_cases he : (⟨b, off + i * byteC.size + 0, none⟩ : Addr) = p
    · refine ⟨y, b, off, [byteV y], hA, hF, ⟨fun j u hu => ?_, fun j hj => by rw [World.frozen?_setCell]; exact hat.free j (by simpa using hj)⟩, rfl⟩
      have hj : j = 0 := by
        have := (List.getElem?_eq_some_iff.1 hu).1
        simp at this; exact this
      subst hj
      rw [he, setCell_same hp]
      simpa using hu
    · refine ⟨l[i], b, off, [byteV l[i]], hA, hF, ⟨fun j u hu => ?_, fun j hj => by rw [World.frozen?_setCell]; exact hat.free j (by simpa using hj)⟩, rfl⟩
      have hj : j = 0 := by
        have := (List.getElem?_eq_some_iff.1 hu).1
        simp at this; exact this
      subst hj
      rw [setCell_other he, hc]
      simpa using hu
  have hex : ∃ f : Nat → UInt8, ∀ i, i < l.length → ∃ b off cs, A = some ⟨b, off, none⟩ ∧ F b ∧ At (w.setCell p (byteV y)) b (off + i * byteC.size) cs ∧ cs = [byteV (f i)] := by
    classical
    refine ⟨fun i => if hi : i < l.length then Classical.choose (key i hi) else 0, fun i hi => ?_⟩
    simp only [dif_pos hi]
    exact Classical.choose_spec (key i hi)
  obtain ⟨f, hf⟩ := hex
  have hlen : ((List.range l.length).map f).length = l.length := by simp
  refine ⟨(List.range l.length).map f, hlen, A, cap, by rw [hlen]; exact hv, by rw [hlen]; exact h1, h2, by rw [hlen]; exact h3, h4, fun i hi => ?_⟩
  rw [hlen] at hi
  obtain ⟨b, off, cs, hA, hF, hat, hr⟩ := hf i hi
  exact ⟨b, off, cs, hA, hF, hat, by show cs = [byteV _]; rw [hr]; simp⟩

theorem BsN.poke {w : World} {F : Nat → Prop} {v : Value} {n : Nat} (h : BsN w F v n) {p : Addr} {x : UInt8} (hp : w.cell? p = some (byteV x)) (y : UInt8) : BsN (w.setCell p (byteV y)) F v n := by
  obtain ⟨l, hl, hb⟩ := h
  obtain ⟨l', h1, h2⟩ := hb.poke hp y
  exact ⟨l', by omega, h2⟩
theorem BsN.out {w w' : World} {S F : Nat → Prop} {v : Value} {n : Nat} (h : BsN w F v n) (ho : Out S w w') (hd : ∀ b, b < w.heap.size → F b → ¬ S b) : BsN w' F v n :=
  let ⟨l, hl, hb⟩ := h; ⟨l, hl, Sl.out hb ho hd⟩
theorem BsN.ext {w w' : World} {F : Nat → Prop} {v : Value} {n : Nat} (h : BsN w F v n) (ho : Ext w w') : BsN w' F v n := h.out ho fun _ _ _ f => f
theorem BsN.mono {w : World} {F G : Nat → Prop} {v : Value} {n : Nat} (h : BsN w F v n) (hg : ∀ b, F b → b < w.heap.size → G b) : BsN w G v n :=
  let ⟨l, hl, hb⟩ := h; ⟨l, hl, Sl.mono hb hg (.inl (by decide))⟩

/-- Byte i of a slice of bytes. -/
theorem BsN.at_ {w : World} {F : Nat → Prop} {A : Option Addr} {k cap n : Nat} (h : BsN w F (.slice A k cap) n) (i : Nat) (hi : i < n) : ∃ b off x, A = some ⟨b, off, none⟩ ∧ F b ∧ w.cell? ⟨b, off + i, none⟩ = some (byteV x) ∧ w.frozen? ⟨b, off + i, none⟩ = false := by
  obtain ⟨l, hl, hb⟩ := h
  obtain ⟨b, off, cs, hA, hF, hat, hr⟩ := Sl.get hb i (by omega)
  have hr' : cs = [byteV l[i]] := hr
  subst hr'
  have h1 := hat.cell 0 _ rfl
  have h2 := hat.free 0 (by simp)
  exact ⟨b, off, l[i], hA, hF, by simpa [byteC] using h1, by simpa [byteC] using h2⟩

/-- A list of entries, or of keys, whatever stands in it: it bears such a write, where the row is not hit. -/
theorem Own.pokeE {w : World} {B : Nat} {F : Nat → Prop} {v : Value} {l : List Ent} (h : Own entC 32 w B F v l) {p : Addr} {x : UInt8} (hp : w.cell? p = some (byteV x)) (hr : v.ownBlock ≠ some p.block) (y : UInt8) : ∃ l' : List Ent, l'.length = l.length ∧ Own entC 32 (w.setCell p (byteV y)) B F v l' := by
  obtain ⟨xs, ho, he⟩ := h
  have key : ∀ i (hi : i < l.length), ∃ e : Ent, ∃ cs, (∀ j, j < entC.size → xs[i * entC.size + j]? = cs[j]?) ∧ entC.rep (w.setCell p (byteV y)) (fun b => F b ∧ v.ownBlock ≠ some b) cs e := fun i hi => by
    obtain ⟨cs, hc, u, z, h1, h2, h3⟩ := he i hi
    obtain ⟨l1, _, g1⟩ := h2.poke hp y
    obtain ⟨l2, _, g2⟩ := h3.poke hp y
    exact ⟨⟨⟨l1, l[i].key.seq, l[i].key.kind⟩, l2⟩, cs, hc, u, z, h1, g1, g2⟩
  have hex : ∃ f : Nat → Ent, ∀ i, i < l.length → ∃ cs, (∀ j, j < entC.size → xs[i * entC.size + j]? = cs[j]?) ∧ entC.rep (w.setCell p (byteV y)) (fun b => F b ∧ v.ownBlock ≠ some b) cs (f i) := by
    classical
    refine ⟨fun i => if hi : i < l.length then Classical.choose (key i hi) else default, fun i hi => ?_⟩
    simp only [dif_pos hi]
    exact Classical.choose_spec (key i hi)
  obtain ⟨f, hf⟩ := hex
  have hlen : ((List.range l.length).map f).length = l.length := by simp
  refine ⟨(List.range l.length).map f, hlen, xs, ?_, fun i hi => ?_⟩
  · rw [hlen]
    refine ⟨ho.1, ?_⟩
    rcases ho.2 with h0 | ⟨g, cap, cur, h3, h4, h5, h6⟩
    · exact .inl h0
    · refine .inr ⟨g, cap, cur, h3, h4, ?_, h6⟩
      exact (Below.heap_setCell _ _ _ _ (fun e => hr (by rw [h3, ← e]; rfl))).trans h5
  · rw [hlen] at hi
    obtain ⟨cs, hc, hr'⟩ := hf i hi
    exact ⟨cs, hc, by simpa using hr'⟩
theorem Own.pokeK {w : World} {B : Nat} {F : Nat → Prop} {v : Value} {l : List Key} (h : Own keyC 30 w B F v l) {p : Addr} {x : UInt8} (hp : w.cell? p = some (byteV x)) (hr : v.ownBlock ≠ some p.block) (y : UInt8) : ∃ l' : List Key, l'.length = l.length ∧ Own keyC 30 (w.setCell p (byteV y)) B F v l' := by
  obtain ⟨xs, ho, he⟩ := h
  have key : ∀ i (hi : i < l.length), ∃ e : Key, ∃ cs, (∀ j, j < keyC.size → xs[i * keyC.size + j]? = cs[j]?) ∧ keyC.rep (w.setCell p (byteV y)) (fun b => F b ∧ v.ownBlock ≠ some b) cs e := fun i hi => by
    obtain ⟨cs, hc, u, h1, h2⟩ := he i hi
    obtain ⟨l1, _, g1⟩ := h2.poke hp y
    exact ⟨⟨l1, l[i].seq, l[i].kind⟩, cs, hc, u, h1, g1⟩
  have hex : ∃ f : Nat → Key, ∀ i, i < l.length → ∃ cs, (∀ j, j < keyC.size → xs[i * keyC.size + j]? = cs[j]?) ∧ keyC.rep (w.setCell p (byteV y)) (fun b => F b ∧ v.ownBlock ≠ some b) cs (f i) := by
    classical
    refine ⟨fun i => if hi : i < l.length then Classical.choose (key i hi) else default, fun i hi => ?_⟩
    simp only [dif_pos hi]
    exact Classical.choose_spec (key i hi)
  obtain ⟨f, hf⟩ := hex
  have hlen : ((List.range l.length).map f).length = l.length := by simp
  refine ⟨(List.range l.length).map f, hlen, xs, ?_, fun i hi => ?_⟩
  · rw [hlen]
    refine ⟨ho.1, ?_⟩
    rcases ho.2 with h0 | ⟨g, cap, cur, h3, h4, h5, h6⟩
    · exact .inl h0
    · refine .inr ⟨g, cap, cur, h3, h4, ?_, h6⟩
      exact (Below.heap_setCell _ _ _ _ (fun e => hr (by rw [h3, ← e]; rfl))).trans h5
  · rw [hlen] at hi
    obtain ⟨cs, hc, hr'⟩ := hf i hi
    exact ⟨cs, hc, by simpa using hr'⟩

/-- Element i of an owned list of entries. -/
theorem Own.entAt {w : World} {B : Nat} {F : Nat → Prop} {v : Value} {l : List Ent} (h : Own entC 32 w B F v l) (i : Nat) (hi : i < l.length) : ∃ R cap x y, v = .slice (some ⟨R, 0, none⟩) l.length cap ∧ B ≤ R ∧ R < w.heap.size ∧
    w.cell? ⟨R, i * 4, none⟩ = some x ∧ w.cell? ⟨R, i * 4 + 1, none⟩ = some (u64V l[i].key.seq) ∧ w.cell? ⟨R, i * 4 + 2, none⟩ = some (byteV l[i].key.kind) ∧ w.cell? ⟨R, i * 4 + 3, none⟩ = some y ∧
    Bs w (fun b => F b ∧ b ≠ R) x l[i].key.user ∧ Bs w (fun b => F b ∧ b ≠ R) y l[i].value := by
  obtain ⟨xs, ho, he⟩ := h
  obtain ⟨cs', hc', x, y, rfl, hb1, hb2⟩ := he i hi
  rcases ho.2 with ⟨rfl, h0⟩ | ⟨R, cap, cur, rfl, hb, hg, hnc, _⟩
  · omega
  · have key : ∀ j u, j < 4 → [x, u64V l[i].key.seq, byteV l[i].key.kind, y][j]? = some u → w.cell? ⟨R, i * 4 + j, none⟩ = some u := by
      intro j u hj hu
      have h1 := hc' j hj
      rw [hu] at h1
      have h2 := ho.cells (g := R) rfl (i * 4 + j) u h1
      rwa [show (⟨R, 0, none⟩ : Addr).add (i * 4 + j) = ⟨R, i * 4 + j, none⟩ from by unfold Addr.add; split <;> simp_all] at h2
    exact ⟨R, cap, x, y, rfl, hb, blk_lt hg, key 0 _ (by omega) rfl, key 1 _ (by omega) rfl, key 2 _ (by omega) rfl, key 3 _ (by omega) rfl,
      hb1.mono (fun b hb _ => ⟨hb.1, fun e => hb.2 (by rw [e]; rfl)⟩) (.inl (by decide)), hb2.mono (fun b hb _ => ⟨hb.1, fun e => hb.2 (by rw [e]; rfl)⟩) (.inl (by decide))⟩
theorem Own.keyAt {w : World} {B : Nat} {F : Nat → Prop} {v : Value} {l : List Key} (h : Own keyC 30 w B F v l) (i : Nat) (hi : i < l.length) : ∃ R cap x, v = .slice (some ⟨R, 0, none⟩) l.length cap ∧ B ≤ R ∧ R < w.heap.size ∧
    w.cell? ⟨R, i * 3, none⟩ = some x ∧ w.cell? ⟨R, i * 3 + 1, none⟩ = some (u64V l[i].seq) ∧ w.cell? ⟨R, i * 3 + 2, none⟩ = some (byteV l[i].kind) ∧ Bs w (fun b => F b ∧ b ≠ R) x l[i].user := by
  obtain ⟨xs, ho, he⟩ := h
  obtain ⟨cs', hc', x, rfl, hb1⟩ := he i hi
  rcases ho.2 with ⟨rfl, h0⟩ | ⟨R, cap, cur, rfl, hb, hg, hnc, _⟩
  · omega
  · have key : ∀ j u, j < 3 → [x, u64V l[i].seq, byteV l[i].kind][j]? = some u → w.cell? ⟨R, i * 3 + j, none⟩ = some u := by
      intro j u hj hu
      have h1 := hc' j hj
      rw [hu] at h1
      have h2 := ho.cells (g := R) rfl (i * 3 + j) u h1
      rwa [show (⟨R, 0, none⟩ : Addr).add (i * 3 + j) = ⟨R, i * 3 + j, none⟩ from by unfold Addr.add; split <;> simp_all] at h2
    exact ⟨R, cap, x, rfl, hb, blk_lt hg, key 0 _ (by omega) rfl, key 1 _ (by omega) rfl, key 2 _ (by omega) rfl, hb1.mono (fun b hb _ => ⟨hb.1, fun e => hb.2 (by rw [e]; rfl)⟩) (.inl (by decide))⟩
theorem flip_u8 (x : UInt8) : bits .xor .u8 (x.toNat : Int) 1 = ((x ^^^ 1).toNat : Int) := by
  have h := u8_xor_nat x.toNat 1 x.toNat_lt (by decide)
  rw [UInt8.toNat_xor]
  exact h
end Go.Proofs.Yteaanagljmcidaa
namespace Go.Proofs.Yteaanagljmcidaa
open Go.RowKit

attribute [local go_sem ↓] Go.wp_at_zero Go.wp_at_succ

structure SpanE where
  frm : List UInt8
  til : List UInt8
  seq : UInt64
  deriving DecidableEq, Inhabited
def spanC : Codec SpanE where
  size := 3
  rep w F cs s := ∃ u v, cs = [u, v, u64V s.seq] ∧ Bs w F u s.frm ∧ Bs w F v s.til
  len := fun ⟨_, _, h, _⟩ => by rw [h]; rfl
  one := fun ⟨u, v, h, hb, hc⟩ x hx => by
    rw [h] at hx; obtain ⟨A, cap, rfl, _⟩ := hb.form; obtain ⟨A', cap', rfl, _⟩ := hc.form
    simp only [List.mem_cons, List.not_mem_nil, or_false] at hx
    rcases hx with rfl | rfl | rfl <;> rfl
  frame := fun ⟨u, v, h, hb, hc⟩ hF => ⟨u, v, h, hb.frame hF, hc.frame hF⟩
  mono := fun ⟨u, v, h, hb, hc⟩ hF => ⟨u, v, h, hb.mono hF (.inl (by decide)), hc.mono hF (.inl (by decide))⟩
theorem fits92 : Fits Try.prog 82 92 spanC.size 56 := fits_of Try.underlying82 (by decide) (by kernel_rfl : (Try.prog.info? 92).map (fun i => (i.zero, i.size, i.bytes)) = some (some (.agg #[.slice none 0 0, .slice none 0 0, .int .u64 0]), 3, 56)) rfl
theorem Sl.span {w : World} {F : Nat → Prop} {A : Option Addr} {n cap : Nat} {l : List SpanE} (h : Sl spanC w F (.slice A n cap) l) (i : Nat) (hi : i < l.length) :
    ∃ b off u v, A = some ⟨b, off, none⟩ ∧ F b ∧ w.cell? ⟨b, off + i * 3, none⟩ = some u ∧ w.cell? ⟨b, off + i * 3 + 1, none⟩ = some v ∧ w.cell? ⟨b, off + i * 3 + 2, none⟩ = some (u64V l[i].seq) ∧ Bs w F u l[i].frm ∧ Bs w F v l[i].til := by
  obtain ⟨b, off, cs, hA, hF, hat, u, v, rfl, h1, h2⟩ := h.get i hi
  exact ⟨b, off, u, v, hA, hF, hat 0 _ rfl, hat 1 _ rfl, hat 2 _ rfl, h1, h2⟩

/-- A span's fault. -/
def scheck (s : SpanE) : Int := if s.frm.length = 0 ∨ 64 < s.frm.length ∨ 64 < s.til.length ∨ Op.bytesLess s.frm s.til = false ∨ s.seq.toNat = 0 ∨ 72057594037927935 < s.seq.toNat then 4 else 0

set_option maxRecDepth 100000 in
set_option maxHeartbeats 2000000 in
theorem tomb_checkI (w : World) (U V : Option Addr) (a n b m k : Nat) (q : Bool)
    (HL : Calls Try.prog 128 #[.slice U a n, .slice V b m] (w.alloc (.cells #[.slice U a n, .slice V b m, .int .u64 k] 92)) fun e w' => e = .returned (.bool q) ∧ (w.alloc (.cells #[.slice U a n, .slice V b m, .int .u64 k] 92)) = w') :
    Calls Try.prog 165 #[.agg #[.slice U a n, .slice V b m, .int .u64 k]] w fun e w' => e = .returned (.int .i64 (if a = 0 ∨ 64 < a ∨ 64 < b ∨ q = false ∨ k = 0 ∨ 72057594037927935 < k then 4 else 0)) ∧ Ext w w' := by
  obtain ⟨z0, z1, z2, -⟩ := cells3 (blk_new w (.cells #[.slice U a n, .slice V b m, .int .u64 k] 92))
  have X1 := Lib.hid (Ext.alloc1 w (.cells #[.slice U a n, .slice V b m, .int .u64 k] 92))
  have H := Lib.hid HL
  clear HL
  cases q
  all_goals
    go_enter Try.func165, Try.ntmps165
    go_wp2_with (go_at_call 128; refine H.out.mono ?_; rintro r w1 ⟨rfl, rfl⟩)
  all_goals
    go_ret
    refine ⟨ret_of ?_, (by first | exact X1.out | exact Ext.alloc1 _ _ | exact Out.refl _ _)⟩
    (try simp only [beq_iff_eq, beq_eq_false_iff_ne, ne_eq] at *) <;> (first | omega | (split <;> first | rfl | omega) | (simp <;> omega))
theorem tomb_check (w : World) {F G : Nat → Prop} {u v : Value} (s : SpanE) (hu : Bs w F u s.frm) (hv : Bs w G v s.til) : Calls Try.prog 165 #[.agg #[u, v, u64V s.seq]] w fun e w' => e = .returned (.int .i64 (scheck s)) ∧ Ext w w' := by
  obtain ⟨U, n, rfl, -⟩ := hu.form
  obtain ⟨V, m, rfl, -⟩ := hv.form
  exact tomb_checkI w U V _ n _ m s.seq.toNat _ (atom_less _ (hu.alloc _) (hv.alloc _))

/-- A span of its own comes back. -/
def SpanCopied (w : World) (s : SpanE) (x : Ending) (w' : World) : Prop :=
  ∃ u v, x = .returned (.agg #[u, v, u64V s.seq]) ∧ Ext w w' ∧ Bs w' (fun b => w.heap.size ≤ b) u s.frm ∧ Bs w' (fun b => w.heap.size ≤ b) v s.til

set_option maxRecDepth 100000 in
set_option maxHeartbeats 2000000 in
theorem tomb_one (w : World) {F G : Nat → Prop} {u v : Value} (s : SpanE) (hu : Bs w F u s.frm) (hv : Bs w G v s.til) : Calls Try.prog 161 #[.agg #[u, v, u64V s.seq]] w (SpanCopied w s) := by
  obtain ⟨U, N, n, rfl⟩ := hu.form0
  obtain ⟨V, M, m, rfl⟩ := hv.form0
  have hx : Ext w ((w.alloc (.cells #[.slice U N n, .slice V M m, u64V s.seq] 92)).alloc (.cells #[.slice none 0 0, .slice none 0 0, .int .u64 0] 92)) := ((Out.refl _ w).alloc _).alloc _
  have hz := blk_alloc (blk_new w (.cells #[.slice U N n, .slice V M m, u64V s.seq] 92)) (.cells #[.slice none 0 0, .slice none 0 0, .int .u64 0] 92)
  obtain ⟨z0, z1, z2, -⟩ := cells3 hz
  have Z := Lib.hid (blk_at (w := w.alloc (.cells #[.slice U N n, .slice V M m, u64V s.seq] 92)) (o := .cells #[.slice none 0 0, .slice none 0 0, .int .u64 0] 92) (n := w.heap.size + 1) (by simp))
  have Hu := Lib.hid (hu.ext hx).drew
  have Hv := Lib.hid (hv.ext hx).drew
  have HX := Lib.hid hx
  clear hu hv hx hz
  obtain ⟨mk1, -⟩ : ∃ x : Nat, x = 0 := ⟨0, rfl⟩
  go_enter Try.func161, Try.ntmps161
  go_wp2
  go_region_held3 (fun w' => w'.cell? ⟨w.heap.size, 0, none⟩ = some (.slice U N n) ∧ w'.cell? ⟨w.heap.size, 1, none⟩ = some (.slice V M m) ∧ w'.cell? ⟨w.heap.size, 2, none⟩ = some (u64V s.seq))
    (first | go_keep | (exact ⟨hx2.cell y0 (fun f => f), hx2.cell y1 (fun f => f), hx2.cell y2 (fun f => f)⟩) | (exact ⟨hx1.cell z0 (fun f => f), hx1.cell z1 (fun f => f), hx1.cell z2 (fun f => f)⟩) | ((try dsimp only); refine ⟨?_, ?_, ?_⟩ <;> (iterate 3 rw [setCell_other (fun e => by injection e with e1; omega)]) <;> assumption))
    (first
      | (have hh := mk1; clear hh; go_at_call 122; refine (bytes_clone _ Hu.out).mono ?_; rintro r w1 ⟨u1, rfl, hx1, hb1⟩; obtain ⟨U1, N1, n1, rfl⟩ := hb1.form0; have y0 := hx1.cell z0 (fun f => f); have y1 := hx1.cell z1 (fun f => f); have y2 := hx1.cell z2 (fun f => f); have Hv1 := Lib.hid (Hv.out.ext hx1); have Hb1 := Lib.hid hb1; clear hb1 mk1)
      | (go_at_call 122; refine (bytes_clone _ Hv1.out).mono ?_; rintro r w2 ⟨u2, rfl, hx2, hb2⟩; obtain ⟨U2, N2, n2, rfl⟩ := hb2.form0; have x0 := hx2.cell y0 (fun f => f); have x1 := hx2.cell y1 (fun f => f); have x2 := hx2.cell y2 (fun f => f); obtain ⟨t0, t1, t2, tf⟩ := cells3 (hx2.blk (hx1.blk (show (World.drew _).heap[_]? = _ from Z.out) (fun f => f)) (fun f => f)); have Hb2 := Lib.hid hb2; clear hb2))
  have hR := hx2.blk (hx1.blk (show (World.drew _).heap[_]? = _ from Z.out) (fun f => f)) (fun f => f)
  obtain ⟨r0, r1, r2, -⟩ := cells3 (blk_set3 hR (.slice U1 N1 n1) (.slice U2 N2 n2) (u64V s.seq))
  have ho := out_set3 (S := fun b => b = w.heap.size + 1) (Out.refl _ w2) (g := w.heap.size + 1) (fun _ => rfl) (.slice U1 N1 n1) (.slice U2 N2 n2) (u64V s.seq)
  have hs1 := hx1.size
  simp only [World.size_drew, World.size_alloc] at hs1
  go_wp2
  refine bodyPost_ret (v := .agg #[.slice U1 N1 n1, .slice U2 N2 n2, u64V s.seq]) (by simp [results, Try.results161, go_sem, r0, r1, r2]) rfl ?_
  have hxx : Ext w w2 := ((HX.out.drew).ext hx1).ext hx2
  exact ⟨_, _, rfl, hxx.then ho (fun b hb e => by omega), ((Hb1.out.ext hx2).out ho (fun b _ hb e => by simp at hb; omega)).mono (fun b hb _ => by simp at hb; omega) (.inl (by decide)), (Hb2.out.out ho (fun b _ hb e => by omega)).mono (fun b hb _ => by omega) (.inl (by decide))⟩

/-- The set of spans at T. -/
structure Tb (w : World) (F : Nat → Prop) (T : Nat) (v : Value) (l : List SpanE) : Prop where
  blk : w.heap[T]? = some (.cells #[v] 210)
  own : Own spanC 92 w 0 F v l
  ne : v.ownBlock ≠ some T
  cold : ¬ F T
variable {w w' : World} {F G : Nat → Prop} {T : Nat} {v : Value} {l : List SpanE}
theorem Tb.frame {S : Nat → Prop} (h : Tb w F T v l) (ho : Out S w w') (hT : ¬ S T) (hv : ∀ b, v.ownBlock = some b → ¬ S b) (hF : ∀ b, b < w.heap.size → F b → ¬ S b) : Tb w' F T v l :=
  ⟨ho.blk h.blk hT, h.own.frame ho (fun b _ _ hb => hv b hb) (fun b hb hf _ => hF b hb hf), h.ne, h.cold⟩
theorem Tb.ext (h : Tb w F T v l) (ho : Ext w w') : Tb w' F T v l := h.frame ho (fun f => f) (fun _ _ f => f) (fun _ _ _ f => f)

theorem tomb_covers (w : World) {F G H : Nat → Prop} {u v x : Value} (s : SpanE) (k : List UInt8) (hu : Bs w F u s.frm) (hv : Bs w G v s.til) (hx : Bs w H x k) :
    Calls Try.prog 164 #[.agg #[u, v, u64V s.seq], x] w fun e w' => e = .returned (.bool (!Op.bytesLess k s.frm && Op.bytesLess k s.til)) ∧ Ext w w' := by
  obtain ⟨U, N, n, rfl⟩ := hu.form0
  obtain ⟨V, M, m, rfl⟩ := hv.form0
  obtain ⟨X, P, p, rfl⟩ := hx.form0
  have x1 := Ext.alloc1 w (.cells #[.slice U N n, .slice V M m, u64V s.seq] 92)
  obtain ⟨z0, z1, z2, -⟩ := cells3 (blk_new w (.cells #[.slice U N n, .slice V M m, u64V s.seq] 92))
  have H1 := Lib.hid (atom_less (w.alloc (.cells #[.slice U N n, .slice V M m, u64V s.seq] 92)) (hx.ext x1) (hu.ext x1))
  have H2 := Lib.hid (atom_less (w.alloc (.cells #[.slice U N n, .slice V M m, u64V s.seq] 92)) (hx.ext x1) (hv.ext x1))
  have X1 := Lib.hid x1
  generalize Op.bytesLess k s.frm = a at *
  generalize Op.bytesLess k s.til = b at *
  clear hu hv hx x1
  obtain ⟨mk1, -⟩ : ∃ x : Nat, x = 0 := ⟨0, rfl⟩
  cases a
  · go_enter Try.func164, Try.ntmps164
    go_wp2_with (first
      | (have hh := mk1; clear hh; go_at_call 128; refine H1.out.mono ?_; rintro r w1 ⟨rfl, rfl⟩; clear mk1)
      | (go_at_call 128; refine H2.out.mono ?_; rintro r w1 ⟨rfl, rfl⟩))
    go_ret
    exact ⟨by simp, X1.out⟩
  · go_enter Try.func164, Try.ntmps164
    go_wp2_with (go_at_call 128; refine H1.out.mono ?_; rintro r w1 ⟨rfl, rfl⟩)
    go_ret
    exact ⟨by simp, X1.out⟩

theorem tomb_newNil (w : World) : Calls Try.prog 117 #[.slice none 0 0] w fun e w' => ∃ T, e = .returned (.pointer (some ⟨T, 0, none⟩)) ∧ Ext w w' ∧ T = w.heap.size ∧ Tb w' (fun b => w.heap.size < b) T (.slice none 0 0) [] := by
  go_enter Try.func117, Try.ntmps117
  go_wp2
  go_loopw [10] (fun s10 wr => s10 = .int .i64 0 ∧ wr = w.alloc (.cells #[.slice none 0 0] 210)) (fun _ _ => 0)
  case atStart => exact ⟨rfl, rfl⟩
  case round =>
    obtain ⟨rfl, rfl⟩ := hrel
    go_wp2
    go_ret
    exact ⟨_, rfl, Ext.alloc1 _ _, rfl, blk_new _ _, Own.nil _ _ _ _ _, (fun e => by cases e), fun h => Nat.lt_irrefl _ h⟩

set_option maxRecDepth 100000 in
set_option maxHeartbeats 2000000 in
theorem tomb_addNo (_h : Tb w F T v l) {u x : Value} (s : SpanE) (hu : Bs w G u s.frm) (hx : Bs w G x s.til) (hc : scheck s ≠ 0) :
    Calls Try.prog 140 #[.pointer (some ⟨T, 0, none⟩), .agg #[u, x, u64V s.seq]] w fun e w' => e = .returned (.int .i64 (scheck s)) ∧ Ext w w' := by
  obtain ⟨U, N, n, rfl⟩ := hu.form0
  obtain ⟨X, M, m, rfl⟩ := hx.form0
  have x1 := Ext.alloc1 w (.cells #[.slice U N n, .slice X M m, u64V s.seq] 92)
  obtain ⟨z0, z1, z2, -⟩ := cells3 (blk_new w (.cells #[.slice U N n, .slice X M m, u64V s.seq] 92))
  have HC := Lib.hid (tomb_check (w.alloc (.cells #[.slice U N n, .slice X M m, u64V s.seq] 92)) s (hu.ext x1) (hx.ext x1))
  have X1 := Lib.hid x1
  generalize scheck s = c at *
  have hcb : (c != 0) = true := by simpa using hc
  clear _h hu hx x1 hc
  go_enter Try.func140, Try.ntmps140
  go_wp2_with (go_at_call 165; refine HC.out.mono ?_; rintro r w1 ⟨rfl, hx1⟩)
  go_ret
  exact ⟨rfl, X1.out.ext hx1⟩

set_option maxRecDepth 100000 in
set_option maxHeartbeats 2000000 in
theorem tomb_add (h : Tb w F T v l) {u x : Value} (s : SpanE) (hu : Bs w G u s.frm) (hx : Bs w G x s.til) (hc : scheck s = 0) (hl : l.length ≤ 1000000) :
    Calls Try.prog 140 #[.pointer (some ⟨T, 0, none⟩), .agg #[u, x, u64V s.seq]] w fun e w' => e = .returned (.int .i64 0) ∧ Out (fun b => b = T ∨ v.ownBlock = some b) w w' ∧
      ∃ v', Tb w' (fun b => F b ∨ w.heap.size ≤ b) T v' (l ++ [s]) ∧ (v'.ownBlock = v.ownBlock ∨ ∃ g, v'.ownBlock = some g ∧ w.heap.size ≤ g) := by
  obtain ⟨U, N, n, rfl⟩ := hu.form0
  obtain ⟨X, M, m, rfl⟩ := hx.form0
  obtain ⟨V, K, k, rfl⟩ := h.own.form0
  have hT := blk_lt h.blk
  have x1 := Ext.alloc1 w (.cells #[.slice U N n, .slice X M m, u64V s.seq] 92)
  obtain ⟨z0, z1, z2, -⟩ := cells3 (blk_new w (.cells #[.slice U N n, .slice X M m, u64V s.seq] 92))
  have Z := Lib.hid (blk_new w (.cells #[.slice U N n, .slice X M m, u64V s.seq] 92))
  have HC := Lib.hid (tomb_check (w.alloc (.cells #[.slice U N n, .slice X M m, u64V s.seq] 92)) s (hu.ext x1) (hx.ext x1))
  have Hu := Lib.hid (hu.ext x1)
  have Hx := Lib.hid (hx.ext x1)
  have H1 := Lib.hid (h.ext x1)
  have HOw := Lib.hid ((h.own.mono (G := fun b => (F b ∨ w.heap.size ≤ b) ∧ b ≠ T) (fun b hb _ => ⟨.inl hb, fun e => h.cold (e ▸ hb)⟩)).ext x1)
  have HLt := Lib.hid h.own.lt
  have HNe := Lib.hid h.ne
  have HCo := Lib.hid h.cold
  have X1 := Lib.hid x1
  rw [hc] at HC
  clear h hu hx x1
  go_enter Try.func140, Try.ntmps140
  go_upto_region 6 with (go_at_call 165; refine HC.out.mono ?_; rintro r w1 ⟨rfl, hx1⟩; have HX1 := Lib.hid hx1; obtain ⟨y0, y1, y2, -⟩ := cells3 (hx1.blk Z.out (fun f => f)); obtain ⟨t0, tf⟩ := cells1 (hx1.blk H1.out.blk (fun f => f)); have hs1 := hx1.size; simp only [World.size_alloc] at hs1; clear hx1)
  go_cut [] (fun wx => ∃ v', Out (fun b => b = T ∨ (Value.slice V K k).ownBlock = some b) w wx ∧ Tb wx (fun b => F b ∨ w.heap.size ≤ b) T v' (l ++ [s]) ∧ (v'.ownBlock = (Value.slice V K k).ownBlock ∨ ∃ g, v'.ownBlock = some g ∧ w.heap.size ≤ g))
  case first =>
    have HX := Lib.hid (X1.out.ext HX1.out : Ext w w1)
    have Hu1 := Lib.hid (Hu.out.ext HX1.out).drew
    have Hx1 := Lib.hid (Hx.out.ext HX1.out).drew
    have HO1 := Lib.hid ((HOw.out.ext HX1.out).ext (Out.refl _ w1).drew)
    have HB1 := Lib.hid (HX1.out.blk H1.out.blk (fun f => f))
    have HZ1 := Lib.hid (HX1.out.blk Z.out (fun f => f))
    refine region_B 11 (fun w' => w'.cell? ⟨T, 0, none⟩ = some (.slice V K k) ∧ w'.cell? ⟨w.heap.size, 0, none⟩ = some (.slice U N n) ∧ w'.cell? ⟨w.heap.size, 1, none⟩ = some (.slice X M m) ∧ w'.cell? ⟨w.heap.size, 2, none⟩ = some (u64V s.seq)) (by kernel_rfl) ?q140_6S (fun hHeld0 => ?_)
    case q140_6S => ((first | go_keep | ((try dsimp only); exact ⟨by assumption, by assumption, by assumption, by assumption⟩)))
    refine anyB_take (i := 0) (oi := _) (v := ?q140_6v1) rfl (by kernel_rfl) (by kernel_rfl) (by kernel_rfl) (by kernel_rfl) (fun _ _ _ h => h) (Or.inl ⟨by rfl, ?q140_6h1⟩) (by assumption) ?q140_6r1
    case q140_6h1 => (intro w hSw; (try dsimp only at hSw); go_simp; try with_reducible rfl)
    (try simp only [List.getElem_toArray, List.getElem_cons_zero, Act.put, List.setIfInBounds_toArray, List.set_cons_zero, List.set_cons_succ])
    refine anyB_take (i := 1) (oi := _) (v := ?q140_6v2) rfl (by kernel_rfl) (by kernel_rfl) (by kernel_rfl) (by kernel_rfl) (fun _ _ _ h => h) (Or.inl ⟨by rfl, ?q140_6h2⟩) (by assumption) ?q140_6r2
    case q140_6h2 => (intro w hSw; (try dsimp only at hSw); go_simp; try with_reducible rfl)
    (try simp only [List.getElem_toArray, List.getElem_cons_succ, List.getElem_cons_zero, Act.put, List.setIfInBounds_toArray, List.set_cons_zero, List.set_cons_succ])
    refine anyB_take (i := 2) (oi := _) (v := ?q140_6v3) rfl (by kernel_rfl) (by kernel_rfl) (by kernel_rfl) (by kernel_rfl) (fun _ _ _ h => h) (Or.inl ⟨by rfl, ?q140_6h3⟩) (by assumption) ?q140_6r3
    case q140_6h3 => (intro w hSw; (try dsimp only at hSw); go_simp; try with_reducible rfl)
    (try simp only [List.getElem_toArray, List.getElem_cons_succ, List.getElem_cons_zero, Act.put, List.setIfInBounds_toArray, List.set_cons_zero, List.set_cons_succ])
    refine anyB_take (i := 3) (oi := _) (v := ?q140_6v4) rfl (by kernel_rfl) (by kernel_rfl) (by kernel_rfl) (by kernel_rfl) (fun _ _ _ h => h) (Or.inl ⟨by rfl, ?q140_6h4⟩) (by assumption) ?q140_6r4
    case q140_6h4 => (intro w hSw; (try dsimp only at hSw); go_simp; try with_reducible rfl)
    (try simp only [List.getElem_toArray, List.getElem_cons_succ, List.getElem_cons_zero, Act.put, List.setIfInBounds_toArray, List.set_cons_zero, List.set_cons_succ])
    refine anyB_take (i := 4) (oi := _) (v := ?q140_6v5) rfl (by kernel_rfl) (by kernel_rfl) (by kernel_rfl) (by kernel_rfl) (fun _ _ _ h => h) (Or.inl ⟨by rfl, ?q140_6h5⟩) (by assumption) ?q140_6r5
    case q140_6h5 => (intro w hSw; (try dsimp only at hSw); go_simp; try with_reducible rfl)
    (try simp only [List.getElem_toArray, List.getElem_cons_succ, List.getElem_cons_zero, Act.put, List.setIfInBounds_toArray, List.set_cons_zero, List.set_cons_succ])
    refine anyB_take (i := 5) (oi := _) (v := ?q140_6v6) rfl (by kernel_rfl) (by kernel_rfl) (by kernel_rfl) (by kernel_rfl) (fun _ _ _ h => h) (Or.inl ⟨by rfl, ?q140_6h6⟩) (by assumption) ?q140_6r6
    case q140_6h6 => (intro w hSw; (try dsimp only at hSw); go_simp; try with_reducible rfl)
    (try simp only [List.getElem_toArray, List.getElem_cons_succ, List.getElem_cons_zero, Act.put, List.setIfInBounds_toArray, List.set_cons_zero, List.set_cons_succ])
    refine anyB_step (i := 6) (o := _) (by kernel_rfl) (by rfl) (by (simp only [List.getElem?_toArray, List.getElem?_cons_succ, List.getElem?_cons_zero] <;> rfl)) (fun K hK => ?_)
    go_simp; go_at_call 161; refine (tomb_one _ s Hu1.out Hx1.out).mono ?_; rintro r w2 ⟨u2, x2, rfl, hx2, hu2, hv2⟩; obtain ⟨U2, N2, n2, rfl⟩ := hu2.form0; obtain ⟨X2, M2, m2, rfl⟩ := hv2.form0; have HX2 := Lib.hid hx2; have Hu2 := Lib.hid hu2; have Hv2 := Lib.hid hv2; have hs2 := hx2.size; simp only [World.size_drew] at hs2; have a0 := (cells1 (hx2.blk (show (World.drew _).heap[_]? = _ from HB1.out) (fun f => f))).1; obtain ⟨b0, b1, b2, -⟩ := cells3 (hx2.blk (show (World.drew _).heap[_]? = _ from HZ1.out) (fun f => f)); clear hx2 hu2 hv2
    (try dsimp only)
    refine hK.out _ _ ?q140_6S7 (fun hHeld1 => ?_)
    case q140_6S7 => ((first | go_keep | ((try dsimp only); exact ⟨by assumption, by assumption, by assumption, by assumption⟩)))
    clear hK K hHeld0
    (try simp only [List.getElem_toArray, List.getElem_cons_succ, List.getElem_cons_zero, Act.put, List.setIfInBounds_toArray, List.set_cons_zero, List.set_cons_succ])
    refine anyB_step (i := 7) (o := _) (by kernel_rfl) (by rfl) (by (simp only [List.getElem?_toArray, List.getElem?_cons_succ, List.getElem?_cons_zero] <;> rfl)) (fun K hK => ?_)
    go_simp
    refine hK.out _ _ ?q140_6S8 (fun hHeld2 => ?_)
    case q140_6S8 => ((first | go_keep | ((try dsimp only); exact ⟨by assumption, by assumption, by assumption, by assumption⟩)))
    clear hK K hHeld1
    (try simp only [List.getElem_toArray, List.getElem_cons_succ, List.getElem_cons_zero, Act.put, List.setIfInBounds_toArray, List.set_cons_zero, List.set_cons_succ])
    refine anyB_step (i := 8) (o := _) (by kernel_rfl) (by rfl) (by (simp only [List.getElem?_toArray, List.getElem?_cons_succ, List.getElem?_cons_zero] <;> rfl)) (fun K hK => ?_)
    refine step_append_one (by rfl) (.tmp 17) (.tmp 20) 82 (by rfl) fits92 ((HO1.out.ext HX2.out).ext (Ext.alloc1 _ _)) (by rfl) (by (try simp only [World.size_alloc]); omega) (blk_new _ _) (by rfl) s ⟨_, _, rfl, (Hu2.out.alloc _).mono (fun b hb _ => ⟨⟨.inr (by simp at hb; omega), by simp at hb; omega⟩, fun e => by have := (HLt.out _ e).2; simp at hb; omega⟩) (.inl (by decide)), (Hv2.out.alloc _).mono (fun b hb _ => ⟨⟨.inr (by simp at hb; omega), by simp at hb; omega⟩, fun e => by have := (HLt.out _ e).2; simp at hb; omega⟩) (.inl (by decide))⟩ (by omega) (by decide) ?_; intro v9 w9 g1 g2 g3; obtain ⟨A9, k9, m9, rfl⟩ := g1.form0; have G1 := Lib.hid g1; have G2 := Lib.hid g2; have G3 := Lib.hid g3; have HB9 := Lib.hid (g2.blk (blk_alloc (HX2.out.blk (show (World.drew _).heap[_]? = _ from HB1.out) (fun f => f)) _) (fun e => HNe.out e)); obtain ⟨c0, cf⟩ := cells1 HB9.out; obtain ⟨d0, d1, d2, -⟩ := cells3 (g2.blk (blk_alloc (HX2.out.blk (show (World.drew _).heap[_]? = _ from HZ1.out) (fun f => f)) _) (fun e => by have := (HLt.out _ e).2; omega)); clear g1 g2 g3
    refine hK.out _ _ ?q140_6S9 (fun hHeld3 => ?_)
    case q140_6S9 => ((first | go_keep | ((try dsimp only); exact ⟨by assumption, by assumption, by assumption, by assumption⟩)))
    clear hK K hHeld2
    (try simp only [Act.put, List.setIfInBounds_toArray, List.set_cons_zero, List.set_cons_succ])
    refine anyB_step (i := 9) (o := _) (by kernel_rfl) (by rfl) (by (simp only [List.getElem?_toArray, List.getElem?_cons_succ, List.getElem?_cons_zero] <;> rfl)) (fun K hK => ?_)
    go_simp
    refine hK.out _ _ ?q140_6S10 (fun hHeld4 => ?_)
    case q140_6S10 => ((first | go_keep | ((try dsimp only); exact ⟨by assumption, by assumption, by assumption, by assumption⟩)))
    clear hK K hHeld3
    (try simp only [List.getElem_toArray, List.getElem_cons_succ, List.getElem_cons_zero, Act.put, List.setIfInBounds_toArray, List.set_cons_zero, List.set_cons_succ])
    refine anyB_take (i := 10) (oi := _) (v := ?q140_6v11) rfl (by kernel_rfl) (by kernel_rfl) (by kernel_rfl) (by kernel_rfl) (fun _ _ _ h => h) (Or.inl ⟨by rfl, ?q140_6h11⟩) (by assumption) ?q140_6r11
    case q140_6h11 => (intro w hSw; (try dsimp only at hSw); go_simp; try with_reducible rfl)
    (try simp only [List.getElem_toArray, List.getElem_cons_succ, List.getElem_cons_zero, Act.put, List.setIfInBounds_toArray, List.set_cons_zero, List.set_cons_succ])
    refine anyB_last (i := 11) (o := _) (by kernel_rfl) (by rfl) (by (simp only [List.getElem?_toArray, List.getElem?_cons_succ, List.getElem?_cons_zero] <;> rfl)) (fun K hK => ?_)
    go_simp
    refine hK.out _ _ ?_
    clear hK K
    (try simp only [List.getElem_toArray, List.getElem_cons_succ, List.getElem_cons_zero, Act.put, List.setIfInBounds_toArray, List.set_cons_zero, List.set_cons_succ])
    refine anyB_done (by kernel_rfl) ?_ _
    go_wp2
    go_meet
    have ho : Out (fun b => b = T) w9 (w9.setCell ⟨T, 0, none⟩ (.slice A9 k9 m9)) := (Out.refl (fun b => b = T) w9).setCell (p := ⟨T, 0, none⟩) (fun _ => rfl) _
    have hw : Ext w w2 := (HX.out.drew).ext HX2.out
    have hne9 : (Value.slice A9 k9 m9).ownBlock ≠ some T := fun e => by exact G3.out.elim (fun h => HNe.out (h ▸ e)) (fun h => by rw [h] at e; injection e with e; simp at e; omega)
    refine ⟨_, (((Ext.out hw _).alloc _).trans (G2.out.mono fun _ _ h => .inr h)).trans (ho.mono fun _ _ h => .inl h), ⟨by have := blk_set HB9.out 0 (.slice A9 k9 m9); simpa using this, ?_, hne9, fun h => h.elim HCo.out (fun h => by omega)⟩, ?_⟩
    exact (G1.out.frame ho (fun b _ _ hb e => hne9 (e ▸ hb)) (fun b _ hb _ e => hb.2 e)).mono (fun b hb _ => hb.1)
    exact G3.out.imp id fun h => ⟨_, h, by simp; omega⟩
  case rest =>
    obtain ⟨v', ho, ht, hv⟩ := hcut
    go_wp2
    go_ret
    exact ⟨rfl, ho, v', ht, hv⟩
end Go.Proofs.Yteaanagljmcidaa
namespace Go.Proofs.Yteaanagljmcidaa
open Go.RowKit

attribute [local go_sem ↓] Go.wp_at_zero Go.wp_at_succ
variable {w w' : World} {F G H : Nat → Prop} {T : Nat} {v : Value} {l : List SpanE}

def coversB (s : SpanE) (k : List UInt8) : Bool := !Op.bytesLess k s.frm && Op.bytesLess k s.til
def coverStep (k : List UInt8) (q : Nat) (best : Nat) (s : SpanE) : Nat := if s.seq.toNat ≤ q ∧ coversB s k = true then max best s.seq.toNat else best
/-- The greatest number over a key. -/
def coverE (l : List SpanE) (k : List UInt8) (q : Nat) : Nat := l.foldl (coverStep k q) 0
theorem coverE_succ {l : List SpanE} {i : Nat} (hi : i < l.length) (k : List UInt8) (q : Nat) : coverE (l.take (i + 1)) k q = coverStep k q (coverE (l.take i) k q) l[i] := by
  unfold coverE
  rw [List.take_succ_eq_append_getElem hi, List.foldl_append]; rfl
theorem Own.spanAt {B : Nat} (h : Own spanC 92 w B F v l) (i : Nat) (hi : i < l.length) : ∃ R cap x y, v = .slice (some ⟨R, 0, none⟩) l.length cap ∧ R < w.heap.size ∧
    w.cell? ⟨R, i * 3, none⟩ = some x ∧ w.cell? ⟨R, i * 3 + 1, none⟩ = some y ∧ w.cell? ⟨R, i * 3 + 2, none⟩ = some (u64V l[i].seq) ∧ Bs w (fun b => F b ∧ b ≠ R) x l[i].frm ∧ Bs w (fun b => F b ∧ b ≠ R) y l[i].til := by
  obtain ⟨xs, ho, he⟩ := h
  obtain ⟨cs', hc', x, y, rfl, hb1, hb2⟩ := he i hi
  rcases ho.2 with ⟨rfl, h0⟩ | ⟨R, cap, cur, rfl, hb, hg, hnc, _⟩
  · omega
  · have key : ∀ j u, j < 3 → [x, y, u64V l[i].seq][j]? = some u → w.cell? ⟨R, i * 3 + j, none⟩ = some u := by
      intro j u hj hu
      have h1 := hc' j hj
      rw [hu] at h1
      have h2 := ho.cells (g := R) rfl (i * 3 + j) u h1
      rwa [show (⟨R, 0, none⟩ : Addr).add (i * 3 + j) = ⟨R, i * 3 + j, none⟩ from by unfold Addr.add; split <;> simp_all] at h2
    exact ⟨R, cap, x, y, rfl, blk_lt hg, key 0 _ (by omega) rfl, key 1 _ (by omega) rfl, key 2 _ (by omega) rfl,
      hb1.mono (fun b hb _ => ⟨hb.1, fun e => hb.2 (by rw [e]; rfl)⟩) (.inl (by decide)), hb2.mono (fun b hb _ => ⟨hb.1, fun e => hb.2 (by rw [e]; rfl)⟩) (.inl (by decide))⟩

set_option maxRecDepth 100000 in
set_option maxHeartbeats 4000000 in
theorem tomb_cover (h : Tb w F T v l) {x : Value} (k : List UInt8) (hx : Bs w H x k) (q : Nat) :
    Calls Try.prog 139 #[.pointer (some ⟨T, 0, none⟩), x, .int .u64 (q : Int)] w fun e w' => e = .returned (.int .u64 (coverE l k q : Nat)) ∧ Ext w w' := by
  obtain ⟨X, M, m, rfl⟩ := hx.form0
  obtain ⟨V, c, rfl, -⟩ := h.own.form
  have hmax' : l.length ≤ 9223372036854775807 := by obtain ⟨xs, ho, -⟩ := h.own; rcases ho.2 with ⟨-, h0⟩ | ⟨g, cap, cur, -, -, -, h1, h2, -⟩ <;> (try unfold maxLen at *) <;> omega
  obtain ⟨r0, rf⟩ := cells1 h.blk
  have H0 := Lib.hid h
  have Hk := Lib.hid hx
  clear h hx
  go_enter Try.func139, Try.ntmps139
  go_wp2
  go_loopw [7, 17] (fun s7 s17 wr => ∃ i : Nat, i ≤ l.length ∧ s17 = .int .i64 i ∧ s7 = .int .u64 (coverE (l.take i) k q : Nat) ∧ Ext w wr) (fun _ s17 _ => l.length - (intOf s17).toNat)
  case atStart => exact ⟨0, Nat.zero_le _, rfl, rfl, Out.refl _ _⟩
  case round =>
    obtain ⟨wo, rfl⟩ : ∃ x : World, x = wr := ⟨_, rfl⟩
    obtain ⟨i, hi, rfl, rfl, hxi⟩ := hrel
    have HX := Lib.hid hxi
    clear hxi
    by_cases hlt : i < l.length
    · obtain ⟨R, rc, ux, uy, hv, hR, e0, e1, e2, hu, hv2⟩ := (H0.out.ext HX.out).own.spanAt i hlt
      injection hv with hV _ hc
      subst hV hc
      obtain ⟨U, N1, n1, rfl⟩ := hu.form0
      obtain ⟨V2, N2, n2, rfl⟩ := hv2.form0
      have x1 := Ext.alloc1 wo (.cells #[.slice U N1 n1, .slice V2 N2 n2, u64V l[i].seq] 92)
      have hz := blk_new wo (.cells #[.slice U N1 n1, .slice V2 N2 n2, u64V l[i].seq] 92)
      obtain ⟨z0, z1, z2, -⟩ := cells3 hz
      have Hz := Lib.hid hz
      have HC := Lib.hid (tomb_covers (wo.alloc (.cells #[.slice U N1 n1, .slice V2 N2 n2, u64V l[i].seq] 92)) l[i] k (hu.ext x1) (hv2.ext x1) ((Hk.out.ext HX.out).ext x1))
      have X1 := Lib.hid (HX.out.ext x1)
      have Hs := Lib.hid (coverE_succ hlt k q)
      have hlim : ((l[i].seq.toNat : Int)) ≤ 18446744073709551615 := by have := l[i].seq.toNat_lt; omega
      clear hu hv2 hz x1
      generalize coverE (l.take i) k q = best at *
      by_cases hq : l[i].seq.toNat ≤ q
      · cases hcv : (!Op.bytesLess k l[i].frm && Op.bytesLess k l[i].til) with
        | true =>
          rw [hcv] at HC
          have Hs' : Hid (coverE (l.take (i + 1)) k q = max best l[i].seq.toNat) := Lib.hid (by rw [Hs.out]; unfold coverStep; exact if_pos ⟨hq, hcv⟩)
          clear hcv
          go_wp2_with (go_at_call 164; refine HC.out.mono ?_; rintro r w1 ⟨rfl, hx1⟩; obtain ⟨y0, y1, y2, -⟩ := cells3 (hx1.blk Hz.out (fun f => f)))
          go_roundw
          case rel => exact ⟨i + 1, by omega, by go_num, by rw [Hs'.out]; congr 1; omega, X1.out.ext hx1⟩
          case measure => simp [intOf]; omega
        | false =>
          rw [hcv] at HC
          have Hs' : Hid (coverE (l.take (i + 1)) k q = best) := Lib.hid (by rw [Hs.out]; unfold coverStep; exact if_neg (fun h => by have h2 := h.2; unfold coversB at h2; rw [hcv] at h2; cases h2))
          clear hcv
          go_wp2_with (go_at_call 164; refine HC.out.mono ?_; rintro r w1 ⟨rfl, hx1⟩)
          go_roundw
          case rel => exact ⟨i + 1, by omega, by go_num, by rw [Hs'.out], X1.out.ext hx1⟩
          case measure => simp [intOf]; omega
      · have Hs' : Hid (coverE (l.take (i + 1)) k q = best) := Lib.hid (by rw [Hs.out]; unfold coverStep; exact if_neg (fun h => hq h.1))
        go_wp2
        go_roundw
        case rel => exact ⟨i + 1, by omega, by go_num, by rw [Hs'.out], X1.out⟩
        case measure => simp [intOf]; omega
    · obtain rfl : i = l.length := by omega
      rw [List.take_length]
      go_wp2
      go_ret
      exact ⟨rfl, HX.out⟩

set_option maxRecDepth 100000 in
set_option maxHeartbeats 4000000 in
theorem tomb_all (h : Tb w F T v l) (hl : l.length ≤ 1000000) : Calls Try.prog 123 #[.pointer (some ⟨T, 0, none⟩)] w (OwnedM spanC 92 w l) := by
  obtain ⟨V, c, rfl, -⟩ := h.own.form
  obtain ⟨r0, rf⟩ := cells1 h.blk
  have H0 := Lib.hid h
  clear h
  go_enter Try.func123, Try.ntmps123
  go_wp2
  go_loopw [3, 13] (fun s3 s13 wr => ∃ i : Nat, i ≤ l.length ∧ s13 = .int .i64 i ∧ Own spanC 92 wr w.heap.size (fun b => w.heap.size ≤ b) s3 (l.take i) ∧ Ext w wr) (fun _ s13 _ => l.length - (intOf s13).toNat)
  case atStart => exact ⟨0, Nat.zero_le _, rfl, Own.nil _ _ _ _ _, Out.refl _ _⟩
  case round =>
    obtain ⟨wo, rfl⟩ : ∃ x : World, x = wr := ⟨_, rfl⟩
    obtain ⟨i, hi, rfl, hown, hxi⟩ := hrel
    obtain ⟨A3, n3, c3, rfl⟩ := hown.form0
    have HX := Lib.hid hxi
    have HFl := Lib.hid hown.lt
    have Hown := Lib.hid hown
    have hsz := hxi.size
    clear hxi hown
    by_cases hlt : i < l.length
    · obtain ⟨R, rc, ux, uy, hv, hR, e0, e1, e2, hu, hv2⟩ := (H0.out.ext HX.out).own.spanAt i hlt
      injection hv with hV _ hc
      subst hV hc
      obtain ⟨U, N1, n1, rfl⟩ := hu.form0
      obtain ⟨V2, N2, n2, rfl⟩ := hv2.form0
      have x1 := Ext.alloc1 wo (.cells #[.slice U N1 n1, .slice V2 N2 n2, u64V l[i].seq] 92)
      obtain ⟨z0, z1, z2, -⟩ := cells3 (blk_new wo (.cells #[.slice U N1 n1, .slice V2 N2 n2, u64V l[i].seq] 92))
      have Hu := Lib.hid (hu.ext x1)
      have Hv := Lib.hid (hv2.ext x1)
      have X1 := Lib.hid (HX.out.ext x1)
      have Hown1 := Lib.hid (Hown.out.ext x1)
      clear hu hv2 x1
      go_wp2_with (first
        | (go_at_call 161; refine (tomb_one _ l[i] Hu.out Hv.out).mono ?_; rintro r w2 ⟨u2, x2, rfl, hx2, hu2, hv2⟩; obtain ⟨U2, N2', n2', rfl⟩ := hu2.form0; obtain ⟨X2, M2, m2, rfl⟩ := hv2.form0; have HX2 := Lib.hid hx2; have Hu2 := Lib.hid hu2; have Hv2 := Lib.hid hv2; have hs2 := hx2.size; simp only [World.size_alloc] at hs2; clear hx2 hu2 hv2)
        | (at_builtin; refine wpList_append_one rfl (.tmp 17) (.tmp 20) 82 rfl fits92 ((Hown1.out.ext HX2.out).ext (Ext.alloc1 _ _)) rfl (by (try simp only [World.size_alloc]); omega) (blk_new _ _) rfl l[i] ⟨_, _, rfl, (Hu2.out.alloc _).mono (fun b hb _ => ⟨by simp at hb; omega, fun e => by have := (HFl.out _ e).2; simp at hb; omega⟩) (.inl (by decide)), (Hv2.out.alloc _).mono (fun b hb _ => ⟨by simp at hb; omega, fun e => by have := (HFl.out _ e).2; simp at hb; omega⟩) (.inl (by decide))⟩ (by rw [List.length_take]; omega) (by decide) ?_; intro v' w3 g1 g2 g3; obtain ⟨A6, n6, c6, rfl⟩ := g1.form0; have G1 := Lib.hid g1; have G2 := Lib.hid g2; clear g1 g2 g3))
      go_roundw
      case rel => exact ⟨i + 1, by omega, by go_num, by rw [List.take_succ_eq_append_getElem hlt]; exact G1.out, ((X1.out.ext HX2.out).alloc _).then G2.out (fun b hb e => by have := (HFl.out _ e).1; omega)⟩
      case measure => simp [intOf]; omega
    · obtain rfl : i = l.length := by omega
      rw [List.take_length] at Hown
      go_wp2
      go_ret
      exact ⟨_, rfl, HX.out, Hown.out⟩
end Go.Proofs.Yteaanagljmcidaa
namespace Go.Proofs.Yteaanagljmcidaa
open Go.RowKit

attribute [local go_sem ↓] Go.wp_at_zero Go.wp_at_succ

theorem seq_beq_true {a b : UInt64} (h : a = b) : ((a.toNat : Int) == (b.toNat : Int)) = true := by subst h; simp
theorem seq_beq_false {a b : UInt64} (h : a ≠ b) : ((a.toNat : Int) == (b.toNat : Int)) = false := by
  rw [beq_eq_false_iff_ne]; intro e; exact h (UInt64.toNat_inj.1 (by omega))
theorem kind_beq {a b : UInt8} : ((a.toNat : Int) == (b.toNat : Int)) = decide (a = b) := by
  rw [Bool.eq_iff_iff]; simp only [beq_iff_eq, decide_eq_true_eq]
  constructor
  · intro e; exact UInt8.toNat_inj.1 (by omega)
  · intro e; subst e; rfl

theorem beq_list_true {a b : List UInt8} (h : a = b) : (a == b) = true := by subst h; simp
theorem beq_list_false {a b : List UInt8} (h : a ≠ b) : (a == b) = false := by simpa using h

theorem key_ne_user {a b : Key} (h : a.user ≠ b.user) : decide (a = b) = false := by simp; intro e; exact h (by rw [e])
theorem key_ne_seq {a b : Key} (h : a.seq ≠ b.seq) : decide (a = b) = false := by simp; intro e; exact h (by rw [e])
theorem key_eq_kind {a b : Key} (h : a.user = b.user) (h2 : a.seq = b.seq) : decide (a = b) = decide (a.kind = b.kind) := by
  cases a; cases b; simp at h h2; subst h; subst h2; simp

set_option maxHeartbeats 1000000 in
theorem r3_same (w : World) {F G : Nat → Prop} {u v : Value} (a b : Key) (hu : Bs w F u a.user) (hv : Bs w G v b.user) :
    Calls Try.prog 31 #[.agg #[u, u64V a.seq, byteV a.kind], .agg #[v, u64V b.seq, byteV b.kind]] w fun e w' => e = .returned (.bool (decide (a = b))) ∧ Ext w w' := by
  have hx : Ext w ((w.alloc (.cells #[u, u64V a.seq, byteV a.kind] 30)).alloc (.cells #[v, u64V b.seq, byteV b.kind] 30)) := ((Out.refl _ w).alloc _).alloc _
  have hu' := (hu.ext hx)
  have hv' := (hv.ext hx)
  have Hx := Lib.hid hx
  clear hx
  by_cases h1 : a.user = b.user
  · have h1' := beq_list_true h1
    by_cases h2 : a.seq = b.seq
    · rw [key_eq_kind h1 h2]
      have h2' := seq_beq_true h2
      have h3 := @kind_beq a.kind b.kind
      clear h1 h2
      go_enter Try.func31, Try.ntmps31
      go_wp2_with (go_at_call 74; refine (r1_same _ hu' hv').mono ?_; rintro e w' ⟨rfl, rfl⟩)
      go_ret
      exact ⟨rfl, Hx.out⟩
    · rw [key_ne_seq h2]
      have h2' := seq_beq_false h2
      clear h1 h2
      go_enter Try.func31, Try.ntmps31
      go_wp2_with (go_at_call 74; refine (r1_same _ hu' hv').mono ?_; rintro e w' ⟨rfl, rfl⟩)
      go_ret
      exact ⟨rfl, Hx.out⟩
  · rw [key_ne_user h1]
    have h1' := beq_list_false h1
    clear h1
    go_enter Try.func31, Try.ntmps31
    go_wp2_with (go_at_call 74; refine (r1_same _ hu' hv').mono ?_; rintro e w' ⟨rfl, rfl⟩)
    go_ret
    exact ⟨rfl, Hx.out⟩

/-- Does one stand ahead of another? -/
def kless (a b : Key) : Bool := if a.user ≠ b.user then Op.bytesLess a.user b.user else if a.seq ≠ b.seq then decide (b.seq.toNat < a.seq.toNat) else decide (b.kind.toNat < a.kind.toNat)

set_option maxHeartbeats 1000000 in
theorem r3_less (w : World) {F G : Nat → Prop} {u v : Value} (a b : Key) (hu : Bs w F u a.user) (hv : Bs w G v b.user) :
    Calls Try.prog 60 #[.agg #[u, u64V a.seq, byteV a.kind], .agg #[v, u64V b.seq, byteV b.kind]] w fun e w' => e = .returned (.bool (kless a b)) ∧ Ext w w' := by
  have hx : Ext w ((w.alloc (.cells #[u, u64V a.seq, byteV a.kind] 30)).alloc (.cells #[v, u64V b.seq, byteV b.kind] 30)) := ((Out.refl _ w).alloc _).alloc _
  have hu' := (hu.ext hx)
  have hv' := (hv.ext hx)
  have Hx := Lib.hid hx
  clear hx
  by_cases h1 : a.user = b.user
  · have h1' := beq_list_true h1
    by_cases h2 : a.seq = b.seq
    · have h2' := seq_beq_true h2
      have h2'' : ((a.seq.toNat : Int) != (b.seq.toNat : Int)) = false := by simp [bne, h2']
      rw [show kless a b = decide (b.kind.toNat < a.kind.toNat) from by simp [kless, h1, h2]]
      clear h1 h2
      go_enter Try.func60, Try.ntmps60
      go_wp2_with (go_at_call 74; refine (r1_same _ hu' hv').mono ?_; rintro e w' ⟨rfl, rfl⟩)
      go_ret
      exact ⟨retb_of (by simp), Hx.out⟩
    · have h2' := seq_beq_false h2
      have h2'' : ((a.seq.toNat : Int) != (b.seq.toNat : Int)) = true := by simp [bne, h2']
      rw [show kless a b = decide (b.seq.toNat < a.seq.toNat) from by simp [kless, h1, h2]]
      clear h1 h2
      go_enter Try.func60, Try.ntmps60
      go_wp2_with (go_at_call 74; refine (r1_same _ hu' hv').mono ?_; rintro e w' ⟨rfl, rfl⟩)
      go_ret
      exact ⟨retb_of (by simp), Hx.out⟩
  · have h1' := beq_list_false h1
    rw [show kless a b = Op.bytesLess a.user b.user from by simp [kless, h1]]
    clear h1
    go_enter Try.func60, Try.ntmps60
    go_wp2_with (first | (go_at_call 74; refine (r1_same _ hu' hv').mono ?_; rintro e w' ⟨rfl, rfl⟩) | (go_at_call 82; refine (r1_less _ hu' hv').mono ?_; rintro e w' ⟨rfl, rfl⟩))
    go_ret
    exact ⟨rfl, Hx.out⟩

theorem ent_ne_key {a b : Ent} (h : a.key ≠ b.key) : decide (a = b) = false := by simp; intro e; exact h (by rw [e])
theorem ent_eq_val {a b : Ent} (h : a.key = b.key) : decide (a = b) = (a.value == b.value) := by
  cases a; cases b; simp at h; subst h; rw [Bool.eq_iff_iff]; simp

set_option maxHeartbeats 1000000 in
theorem r3_sameEntry (w : World) {F F' G G' : Nat → Prop} {u u' v v' : Value} (a b : Ent) (hu : Bs w F u a.key.user) (hv : Bs w G v b.key.user) (hu' : Bs w F' u' a.value) (hv' : Bs w G' v' b.value) :
    Calls Try.prog 36 #[.agg #[u, u64V a.key.seq, byteV a.key.kind, u'], .agg #[v, u64V b.key.seq, byteV b.key.kind, v']] w fun e w' => e = .returned (.bool (decide (a = b))) ∧ Ext w w' := by
  have hx : Ext w ((w.alloc (.cells #[u, u64V a.key.seq, byteV a.key.kind, u'] 32)).alloc (.cells #[v, u64V b.key.seq, byteV b.key.kind, v'] 32)) := ((Out.refl _ w).alloc _).alloc _
  have hu2 := (hu.ext hx)
  have hv2 := (hv.ext hx)
  have hu3 := (hu'.ext hx)
  have hv3 := (hv'.ext hx)
  have Hx := Lib.hid hx
  clear hx
  by_cases h1 : a.key = b.key
  · rw [ent_eq_val h1]
    have h1' : decide (a.key = b.key) = true := by simpa using h1
    clear h1
    go_enter Try.func36, Try.ntmps36
    go_wp2_with (first | (go_at_call 31; refine (r3_same _ a.key b.key hu2 hv2).mono ?_; rintro e w' ⟨rfl, hx1⟩; obtain ⟨hc1, hf1⟩ := hx1.old) | (go_at_call 74; refine (r1_same _ (hu3.ext hx1) (hv3.ext hx1)).mono ?_; rintro e w' ⟨rfl, rfl⟩))
    go_ret
    exact ⟨rfl, Hx.out.ext ‹_›⟩
  · rw [ent_ne_key h1]
    have h1' : decide (a.key = b.key) = false := by simpa using h1
    clear h1
    go_enter Try.func36, Try.ntmps36
    go_wp2_with (first | (go_at_call 31; refine (r3_same _ a.key b.key hu2 hv2).mono ?_; rintro e w' ⟨rfl, hx1⟩; obtain ⟨hc1, hf1⟩ := hx1.old) | (go_at_call 74; refine (r1_same _ (hu3.ext hx1) (hv3.ext hx1)).mono ?_; rintro e w' ⟨rfl, rfl⟩))
    go_ret
    exact ⟨rfl, Hx.out.ext ‹_›⟩

end Go.Proofs.Yteaanagljmcidaa
namespace Go.Proofs.Yteaanagljmcidaa

theorem bcmp_swap : ∀ a b, bcmp b a = - bcmp a b
  | [], [] => by simp [bcmp]
  | [], _ :: _ => by simp [bcmp]
  | _ :: _, [] => by simp [bcmp]
  | a :: x, b :: y => by
    have ih := bcmp_swap x y
    unfold bcmp
    by_cases h : a < b
    · have h' : ¬ b < a := fun h2 => UInt8.lt_irrefl _ (UInt8.lt_trans h h2)
      simp [h, h']
    · by_cases h2 : b < a
      · simp [h, h2]
      · simp [h, h2, ih]

theorem bcmp_trans : ∀ a b c, bcmp a b < 0 → bcmp b c < 0 → bcmp a c < 0
  | [], [], c => by simp [bcmp]
  | [], _ :: _, [] => by simp [bcmp]
  | [], _ :: _, _ :: _ => by simp [bcmp]
  | _ :: _, [], _ => by simp [bcmp]
  | _ :: _, _ :: _, [] => by simp [bcmp]
  | a :: x, b :: y, c :: z => by
    intro h1 h2
    have ih := bcmp_trans x y z
    unfold bcmp at h1 h2 ⊢
    simp only [UInt8.lt_iff_toNat_lt] at *
    split at h1
    · split at h2
      · rw [if_pos (by omega)]; omega
      · split at h2
        · omega
        · rw [if_pos (by omega)]; omega
    · split at h1
      · omega
      · split at h2
        · rw [if_pos (by omega)]; omega
        · split at h2
          · omega
          · rw [if_neg (by omega), if_neg (by omega)]; exact ih h1 h2

theorem kcmp_neg {a b : Key} : kcmp a b < 0 ↔ bcmp a.user b.user < 0 ∨ a.user = b.user ∧ (b.seq.toNat < a.seq.toNat ∨ a.seq = b.seq ∧ b.kind.toNat < a.kind.toNat) := by
  have h0 := bcmp_zero a.user b.user
  unfold kcmp or3 ncmp
  rw [← UInt64.toNat_inj]
  generalize bcmp a.user b.user = x at *
  generalize a.seq.toNat = p at *
  generalize b.seq.toNat = q at *
  generalize a.kind.toNat = r at *
  generalize b.kind.toNat = t at *
  by_cases hu : a.user = b.user
  · have hx := h0.2 hu
    subst hx
    simp only [hu, true_and, ne_eq, not_true_eq_false, if_false]
    (repeat' split) <;> omega
  · have hx : x ≠ 0 := fun e => hu (h0.1 e)
    simp [hu, hx]

theorem kcmp_zero {a b : Key} : kcmp a b = 0 ↔ a = b := by
  have h0 := bcmp_zero a.user b.user
  have h1 : a = b ↔ a.user = b.user ∧ a.seq.toNat = b.seq.toNat ∧ a.kind.toNat = b.kind.toNat := by
    cases a; cases b; simp [UInt64.toNat_inj, UInt8.toNat_inj]
  rw [h1]
  unfold kcmp or3 ncmp
  generalize bcmp a.user b.user = x at *
  generalize a.seq.toNat = p at *
  generalize b.seq.toNat = q at *
  generalize a.kind.toNat = r at *
  generalize b.kind.toNat = t at *
  by_cases hu : a.user = b.user
  · have hx := h0.2 hu
    subst hx
    simp only [hu, true_and, ne_eq, not_true_eq_false, if_false]
    (repeat' split) <;> omega
  · have hx : x ≠ 0 := fun e => hu (h0.1 e)
    simp [hu, hx]

theorem ncmp_swap (a b : Nat) : ncmp b a = - ncmp a b := by unfold ncmp; split <;> split <;> first | omega | (split <;> omega)

theorem kcmp_swap (a b : Key) : kcmp b a = - kcmp a b := by
  unfold kcmp or3
  rw [bcmp_swap a.user b.user, ncmp_swap b.seq.toNat a.seq.toNat, ncmp_swap b.kind.toNat a.kind.toNat]
  by_cases h : bcmp a.user b.user = 0
  · by_cases h2 : ncmp b.seq.toNat a.seq.toNat = 0
    · simp [h, h2]
    · simp [h, h2]
  · simp [h]

theorem kcmp_trans {a b c : Key} (h1 : kcmp a b < 0) (h2 : kcmp b c < 0) : kcmp a c < 0 := by
  rw [kcmp_neg] at *
  rcases h1 with h1 | ⟨e1, h1⟩
  · rcases h2 with h2 | ⟨e2, h2⟩
    · exact .inl (bcmp_trans _ _ _ h1 h2)
    · exact .inl (by rw [← e2]; exact h1)
  · rcases h2 with h2 | ⟨e2, h2⟩
    · exact .inl (by rw [e1]; exact h2)
    · refine .inr ⟨e1.trans e2, ?_⟩
      rcases h1 with h1 | ⟨f1, h1⟩
      · rcases h2 with h2 | ⟨f2, h2⟩
        · exact .inl (by omega)
        · exact .inl (by rw [← f2]; exact h1)
      · rcases h2 with h2 | ⟨f2, h2⟩
        · exact .inl (by rw [f1]; exact h2)
        · exact .inr ⟨f1.trans f2, by omega⟩

theorem kcmp_total (a b : Key) : kcmp a b < 0 ∨ a = b ∨ kcmp b a < 0 := by
  have h := kcmp_swap a b
  by_cases h0 : kcmp a b = 0
  · exact .inr (.inl (kcmp_zero.1 h0))
  · rcases Int.lt_or_lt_of_ne h0 with h1 | h1
    · exact .inl h1
    · exact .inr (.inr (by omega))

theorem kcmp_irrefl (a : Key) : ¬ kcmp a a < 0 := by rw [kcmp_zero.2 rfl]; omega

theorem kless_eq (a b : Key) : kless a b = decide (kcmp a b < 0) := by
  have h0 := bcmp_zero a.user b.user
  rw [Bool.eq_iff_iff, decide_eq_true_eq, kcmp_neg]
  unfold kless
  rw [← bcmp_neg]
  generalize bcmp a.user b.user = x at *
  by_cases h : a.user = b.user
  · have hx := h0.2 h
    subst hx
    by_cases hs : a.seq = b.seq
    · simp [h, hs]
    · simp [h, hs]
  · simp [h]

end Go.Proofs.Yteaanagljmcidaa
namespace Go.Proofs.Yteaanagljmcidaa
open Go.RowKit

/-- How many are ahead. -/
def aheadN (es : List Ent) (k : Key) : Nat := (es.filter fun e => kless e.key k).length
/-- Of a list in order: what is ahead stands in front. -/
theorem take_filter {α : Type} (p : α → Bool) : ∀ {l : List α}, l.Pairwise (fun a b => p b = true → p a = true) → l.take (l.filter p).length = l.filter p ∧ l.drop (l.filter p).length = l.filter fun x => !p x
  | [], _ => by simp
  | x :: l, h => by
    obtain ⟨h1, h2⟩ := List.pairwise_cons.1 h
    obtain ⟨i1, i2⟩ := take_filter p h2
    by_cases hp : p x = true
    · simp only [List.filter_cons, hp, if_true, List.length_cons, List.take_succ_cons, List.drop_succ_cons, i1, i2]; simp
    · have hn : l.filter p = [] := List.filter_eq_nil_iff.2 fun y hy hpy => hp (h1 y hy hpy)
      have ha : l.filter (fun x => !p x) = l := List.filter_eq_self.2 fun y hy => by
        have : ¬ p y = true := fun hpy => hp (h1 y hy hpy)
        simpa using this
      simp only [List.filter_cons, hp]
      simp [hn, ha]
theorem aheadN_le (es : List Ent) (k : Key) : aheadN es k ≤ es.length := List.length_filter_le _ _
theorem aheadN_succ {es : List Ent} {i : Nat} (h : i < es.length) (k : Key) : aheadN (es.take (i + 1)) k = aheadN (es.take i) k + if kless es[i].key k = true then 1 else 0 := by
  unfold aheadN
  rw [List.take_succ_eq_append_getElem h, List.filter_append, List.length_append]
  by_cases hc : kless es[i].key k = true <;> simp [hc]
end Go.Proofs.Yteaanagljmcidaa
namespace Go.Proofs.Yteaanagljmcidaa
open Go.RowKit

def SortedE (l : List Ent) : Prop := l.Pairwise fun a b => kcmp a.key b.key < 0

/-- Does one stand there of this version? -/
def hasK (k : Key) (e : Ent) : Bool := decide (e.key = k)

/-- One more, where none of its version stands. -/
def addE (out : List Ent) (e : Ent) : List Ent := if out.any (hasK e.key) then out else out.take (aheadN out e.key) ++ e :: out.drop (aheadN out e.key)
def addAll (out : List Ent) (l : List Ent) : List Ent := l.foldl addE out
/-- One list of all. -/
def allE (ls : List (List Ent)) : List Ent := addAll [] ls.flatten

theorem addAll_append (o a b : List Ent) : addAll o (a ++ b) = addAll (addAll o a) b := List.foldl_append ..
theorem allE_snoc (ls : List (List Ent)) (l : List Ent) : allE (ls ++ [l]) = addAll (allE ls) l := by
  unfold allE; rw [List.flatten_append, addAll_append]; simp
theorem addAll_snoc (o a : List Ent) (e : Ent) : addAll o (a ++ [e]) = addE (addAll o a) e := by rw [addAll_append]; rfl

theorem any_hasK {l : List Ent} {k : Key} : l.any (hasK k) = true ↔ ∃ x ∈ l, x.key = k := by simp [hasK]

theorem find_addE (out : List Ent) (e : Ent) (k : Key) : (addE out e).find? (hasK k) = (out ++ [e]).find? (hasK k) := by
  unfold addE
  split
  · rename_i h
    obtain ⟨x, hx, hk⟩ := any_hasK.1 h
    rw [List.find?_append]
    cases hf : out.find? (hasK k) with
    | some y => simp
    | none =>
      have : ¬ e.key = k := fun he => by
        have := List.find?_eq_none.1 hf x hx
        simp [hasK, hk, he] at this
      simp [hasK, this]
  · rename_i h
    by_cases he : e.key = k
    · have h0 : out.find? (hasK k) = none := List.find?_eq_none.2 fun x hx hk => h (any_hasK.2 ⟨x, hx, by rw [he]; simpa [hasK] using hk⟩)
      have h1 : (out.take (aheadN out e.key)).find? (hasK k) = none := List.find?_eq_none.2 fun x hx => List.find?_eq_none.1 h0 x (List.mem_of_mem_take hx)
      rw [List.find?_append, List.find?_append, h0, h1]
      simp [hasK, he]
    · have hk : hasK k e = false := by simp [hasK, he]
      rw [List.find?_append, List.find?_cons, hk, List.find?_append]
      conv => rhs; rw [← List.take_append_drop (aheadN out e.key) out, List.find?_append]
      simp [hk]
theorem find_addAll : ∀ (l out : List Ent) (k : Key), (addAll out l).find? (hasK k) = (out ++ l).find? (hasK k)
  | [], out, k => by simp [addAll]
  | e :: l, out, k => by
    show (addAll (addE out e) l).find? _ = _
    rw [find_addAll l, List.find?_append, find_addE, ← List.find?_append, List.append_assoc]; rfl
/-- Who stands there of a version: the first one that came. -/
theorem find_allE (ls : List (List Ent)) (k : Key) : (allE ls).find? (hasK k) = ls.flatten.find? (hasK k) := find_addAll _ [] k

theorem mem_find {l : List Ent} {k : Key} : (∃ e ∈ l, e.key = k) ↔ (l.find? (hasK k)).isSome = true := by
  rw [List.find?_isSome]; simp [hasK]
theorem keys_allE (ls : List (List Ent)) (k : Key) : (∃ e ∈ allE ls, e.key = k) ↔ ∃ l ∈ ls, ∃ e ∈ l, e.key = k := by
  rw [mem_find, find_allE, ← mem_find]
  constructor
  · rintro ⟨e, he, hk⟩; obtain ⟨l, hl, he⟩ := List.mem_flatten.1 he; exact ⟨l, hl, e, he, hk⟩
  · rintro ⟨l, hl, e, he, hk⟩; exact ⟨e, List.mem_flatten.2 ⟨l, hl, he⟩, hk⟩
theorem mem_addE {out : List Ent} {e x : Ent} (h : x ∈ addE out e) : x ∈ out ∨ x = e := by
  unfold addE at h
  split at h
  · exact .inl h
  · rcases List.mem_append.1 h with h | h
    · exact .inl (List.mem_of_mem_take h)
    · rcases List.mem_cons.1 h with h | h
      · exact .inr h
      · exact .inl (List.mem_of_mem_drop h)
theorem mem_addAll : ∀ {l out : List Ent} {x : Ent}, x ∈ addAll out l → x ∈ out ∨ x ∈ l
  | [], _, _, h => .inl h
  | e :: l, out, x, h => by
    rcases mem_addAll (l := l) (out := addE out e) h with h | h
    · exact (mem_addE h).imp id fun h => by rw [h]; exact List.mem_cons_self
    · exact .inr (List.mem_cons_of_mem _ h)
theorem mem_allE {ls : List (List Ent)} {x : Ent} (h : x ∈ allE ls) : ∃ l ∈ ls, x ∈ l := by
  rcases mem_addAll h with h | h
  · cases h
  · exact List.mem_flatten.1 h
theorem addE_length (out : List Ent) (e : Ent) : (addE out e).length ≤ out.length + 1 := by
  unfold addE; split
  · omega
  · simp; omega
theorem addAll_length : ∀ (l out : List Ent), (addAll out l).length ≤ out.length + l.length
  | [], out => by simp [addAll]
  | e :: l, out => by
    have h1 := addAll_length l (addE out e)
    have h2 := addE_length out e
    show (addAll (addE out e) l).length ≤ _
    simp; omega
theorem allE_length (ls : List (List Ent)) : (allE ls).length ≤ ls.flatten.length := by have := addAll_length ls.flatten []; simpa [allE] using this

/-- A property of versions that whatever stands ahead has, too. -/
def Down (d : Key → Bool) : Prop := ∀ a b, kcmp a b < 0 → d b = true → d a = true
def cut (d : Key → Bool) (l : List Ent) : Nat := (l.filter fun e => d e.key).length
theorem down_ahead (k : Key) : Down fun j => decide (kcmp j k < 0) := fun a b h hb => by
  simp only [decide_eq_true_eq] at *; exact kcmp_trans h hb
theorem down_upto (k : Key) : Down fun j => !decide (kcmp k j < 0) := fun a b h hb => by
  simp only [Bool.not_eq_true', decide_eq_false_iff_not] at *
  exact fun h2 => hb (kcmp_trans h2 h)
theorem down_none : Down fun _ => false := fun _ _ _ h => h
theorem down_all : Down fun _ => true := fun _ _ _ h => h
theorem cut_ahead (l : List Ent) (k : Key) : cut (fun j => decide (kcmp j k < 0)) l = aheadN l k := by
  unfold cut aheadN; congr 2; funext x; rw [kless_eq]
theorem cut_none (l : List Ent) : cut (fun _ => false) l = 0 := by unfold cut; simp
theorem cut_all (l : List Ent) : cut (fun _ => true) l = l.length := by unfold cut; simp
theorem cut_le (d : Key → Bool) (l : List Ent) : cut d l ≤ l.length := List.length_filter_le _ _

theorem SortedE.split {l : List Ent} (h : SortedE l) {d : Key → Bool} (hd : Down d) : l.take (cut d l) = l.filter (fun e => d e.key) ∧ l.drop (cut d l) = l.filter fun e => !d e.key :=
  take_filter _ (h.imp fun hab hb => hd _ _ hab hb)
theorem SortedE.lt {l : List Ent} (h : SortedE l) {i j : Nat} (hi : i < l.length) (hj : j < l.length) (hij : i < j) : kcmp l[i].key l[j].key < 0 := List.pairwise_iff_getElem.1 h i j hi hj hij
theorem SortedE.has {l : List Ent} (h : SortedE l) {d : Key → Bool} (hd : Down d) {i : Nat} (hi : i < l.length) : d l[i].key = true ↔ i < cut d l := by
  obtain ⟨h1, h2⟩ := h.split hd
  constructor
  · intro hdi
    apply Nat.lt_of_not_le
    intro hle
    have hm : l[i] ∈ l.drop (cut d l) := List.mem_iff_getElem.2 ⟨i - cut d l, by simp; omega, by simp; congr 1; omega⟩
    rw [h2] at hm
    have := (List.mem_filter.1 hm).2
    rw [hdi] at this; cases this
  · intro hlt
    have hm : l[i] ∈ l.take (cut d l) := List.mem_iff_getElem.2 ⟨i, by simp; omega, by simp⟩
    rw [h1] at hm
    exact (List.mem_filter.1 hm).2
theorem addE_sorted {out : List Ent} (h : SortedE out) (e : Ent) : SortedE (addE out e) := by
  unfold addE
  split
  · exact h
  · rename_i hn
    obtain ⟨h1, h2⟩ := h.split (down_ahead e.key)
    rw [cut_ahead] at h1 h2
    rw [h1, h2]
    unfold SortedE
    rw [List.pairwise_append, List.pairwise_cons]
    have hgt : ∀ y ∈ out.filter (fun x => !decide (kcmp x.key e.key < 0)), kcmp e.key y.key < 0 := fun y hy => by
      obtain ⟨hy1, hy2⟩ := List.mem_filter.1 hy
      rcases kcmp_total e.key y.key with h | h | h
      · exact h
      · exact absurd (any_hasK.2 ⟨y, hy1, h.symm⟩) hn
      · simp [h] at hy2
    refine ⟨List.Pairwise.filter _ h, ⟨hgt, List.Pairwise.filter _ h⟩, fun a ha b hb => ?_⟩
    have ha' : kcmp a.key e.key < 0 := by simpa using (List.mem_filter.1 ha).2
    rcases List.mem_cons.1 hb with rfl | hb
    · exact ha'
    · exact kcmp_trans ha' (hgt b hb)
theorem addAll_sorted : ∀ {l out : List Ent}, SortedE out → SortedE (addAll out l)
  | [], _, h => h
  | e :: l, _, h => by
    show SortedE (addAll (addE _ e) l)
    exact addAll_sorted (addE_sorted h e)
theorem allE_sorted (ls : List (List Ent)) : SortedE (allE ls) := addAll_sorted .nil

/-- The least, the greatest that has a property; or none has it. -/
def Least (p : Key → Prop) : Option Key → Prop
  | none => ∀ k, ¬ p k
  | some k => p k ∧ ∀ j, p j → ¬ kcmp j k < 0
def Greatest (p : Key → Prop) : Option Key → Prop
  | none => ∀ k, ¬ p k
  | some k => p k ∧ ∀ j, p j → ¬ kcmp k j < 0
theorem Least.uniq {p q : Key → Prop} (hpq : ∀ k, p k ↔ q k) : ∀ {a b : Option Key}, Least p a → Least q b → a = b
  | none, none, _, _ => rfl
  | none, some k, h, h2 => absurd ((hpq k).2 h2.1) (h k)
  | some k, none, h, h2 => absurd ((hpq k).1 h.1) (h2 k)
  | some a, some b, h, h2 => by
    have h3 := h.2 b ((hpq b).2 h2.1)
    have h4 := h2.2 a ((hpq a).1 h.1)
    rcases kcmp_total a b with h | h | h
    · exact absurd h h4
    · rw [h]
    · exact absurd h h3
theorem Greatest.uniq {p q : Key → Prop} (hpq : ∀ k, p k ↔ q k) : ∀ {a b : Option Key}, Greatest p a → Greatest q b → a = b
  | none, none, _, _ => rfl
  | none, some k, h, h2 => absurd ((hpq k).2 h2.1) (h k)
  | some k, none, h, h2 => absurd ((hpq k).1 h.1) (h2 k)
  | some a, some b, h, h2 => by
    have h3 := h.2 b ((hpq b).2 h2.1)
    have h4 := h2.2 a ((hpq a).1 h.1)
    rcases kcmp_total a b with h | h | h
    · exact absurd h h3
    · rw [h]
    · exact absurd h h4

/-- A step: what one more source stands at. -/
def lessK (acc : Option Key) (o : Option Key) : Option Key := match o, acc with
  | none, acc => acc
  | some k, none => some k
  | some k, some h => if kcmp k h < 0 then some k else some h
def moreK (acc : Option Key) (o : Option Key) : Option Key := match o, acc with
  | none, acc => acc
  | some k, none => some k
  | some k, some h => if 0 < kcmp k h then some k else some h
theorem lessK_spec {p q : Key → Prop} : ∀ {a o : Option Key}, Least p a → Least q o → Least (fun k => p k ∨ q k) (lessK a o)
  | none, none, h, h2 => fun k hk => hk.elim (h k) (h2 k)
  | some k, none, h, h2 => ⟨.inl h.1, fun j hj => hj.elim (h.2 j) fun hj => absurd hj (h2 j)⟩
  | none, some k, h, h2 => ⟨.inr h2.1, fun j hj => hj.elim (fun hj => absurd hj (h j)) (h2.2 j)⟩
  | some a, some k, h, h2 => by
    show Least _ (if kcmp k a < 0 then some k else some a)
    by_cases hk : kcmp k a < 0
    · rw [if_pos hk]
      exact ⟨.inr h2.1, fun j hj => hj.elim (fun hj hl => h.2 j hj (kcmp_trans hl hk)) (h2.2 j)⟩
    · rw [if_neg hk]
      refine ⟨.inl h.1, fun j hj => hj.elim (h.2 j) fun hj hl => ?_⟩
      have h3 := h2.2 j hj
      rcases kcmp_total k a with h4 | h4 | h4
      · exact hk h4
      · exact h3 (h4 ▸ hl)
      · exact h3 (kcmp_trans hl h4)
theorem kcmp_pos (a b : Key) : 0 < kcmp a b ↔ kcmp b a < 0 := by rw [kcmp_swap a b]; omega
theorem moreK_spec {p q : Key → Prop} : ∀ {a o : Option Key}, Greatest p a → Greatest q o → Greatest (fun k => p k ∨ q k) (moreK a o)
  | none, none, h, h2 => fun k hk => hk.elim (h k) (h2 k)
  | some k, none, h, h2 => ⟨.inl h.1, fun j hj => hj.elim (h.2 j) fun hj => absurd hj (h2 j)⟩
  | none, some k, h, h2 => ⟨.inr h2.1, fun j hj => hj.elim (fun hj => absurd hj (h j)) (h2.2 j)⟩
  | some a, some k, h, h2 => by
    show Greatest _ (if 0 < kcmp k a then some k else some a)
    by_cases hk : kcmp a k < 0
    · rw [if_pos ((kcmp_pos _ _).2 hk)]
      exact ⟨.inr h2.1, fun j hj => hj.elim (fun hj hl => h.2 j hj (kcmp_trans hk hl)) (h2.2 j)⟩
    · rw [if_neg fun h => hk ((kcmp_pos _ _).1 h)]
      refine ⟨.inl h.1, fun j hj => hj.elim (h.2 j) fun hj hl => ?_⟩
      have h3 := h2.2 j hj
      rcases kcmp_total a k with h4 | h4 | h4
      · exact hk h4
      · exact h3 (h4 ▸ hl)
      · exact h3 (kcmp_trans h4 hl)

/-- What a source stands at; what stands right ahead of it. -/
def atK (s : List Ent × Int) : Option Key := if s.2 < 0 then none else (s.1[s.2.toNat]?).map (·.key)
def priorK (s : List Ent × Int) : Option Key := if s.2 < 1 then none else (s.1[s.2.toNat - 1]?).map (·.key)
def leastK (ss : List (List Ent × Int)) : Option Key := (ss.map atK).foldl lessK none
def greatestK (ss : List (List Ent × Int)) : Option Key := (ss.map priorK).foldl moreK none

theorem foldl_less {α : Type} {f : α → Option Key} {p : α → Key → Prop} : ∀ (l : List α) {acc : Option Key} {q : Key → Prop}, Least q acc → (∀ x ∈ l, Least (p x) (f x)) → Least (fun k => q k ∨ ∃ x ∈ l, p x k) ((l.map f).foldl lessK acc)
  | [], acc, q, h, _ => by
    have : (fun k => q k ∨ ∃ x ∈ ([] : List α), p x k) = q := by funext k; simp
    rw [this]; exact h
  | x :: l, acc, q, h, hx => by
    have h1 := foldl_less l (lessK_spec h (hx x List.mem_cons_self)) fun y hy => hx y (List.mem_cons_of_mem _ hy)
    have : (fun k => q k ∨ ∃ y ∈ x :: l, p y k) = fun k => (q k ∨ p x k) ∨ ∃ y ∈ l, p y k := by funext k; simp [or_assoc]
    rw [this]; exact h1
theorem foldl_more {α : Type} {f : α → Option Key} {p : α → Key → Prop} : ∀ (l : List α) {acc : Option Key} {q : Key → Prop}, Greatest q acc → (∀ x ∈ l, Greatest (p x) (f x)) → Greatest (fun k => q k ∨ ∃ x ∈ l, p x k) ((l.map f).foldl moreK acc)
  | [], acc, q, h, _ => by
    have : (fun k => q k ∨ ∃ x ∈ ([] : List α), p x k) = q := by funext k; simp
    rw [this]; exact h
  | x :: l, acc, q, h, hx => by
    have h1 := foldl_more l (moreK_spec h (hx x List.mem_cons_self)) fun y hy => hx y (List.mem_cons_of_mem _ hy)
    have : (fun k => q k ∨ ∃ y ∈ x :: l, p y k) = fun k => (q k ∨ p x k) ∨ ∃ y ∈ l, p y k := by funext k; simp [or_assoc]
    rw [this]; exact h1

/-- Of a list in order: the least that a property doesn't hold of, the greatest that it holds of. -/
theorem SortedE.least {l : List Ent} (h : SortedE l) {d : Key → Bool} (hd : Down d) : Least (fun k => (∃ e ∈ l, e.key = k) ∧ d k = false) ((l[cut d l]?).map (·.key)) := by
  by_cases hc : cut d l < l.length
  · rw [List.getElem?_eq_getElem hc]
    refine ⟨⟨⟨_, List.getElem_mem hc, rfl⟩, ?_⟩, ?_⟩
    · cases he : d l[cut d l].key with
      | false => rfl
      | true => have := (h.has hd hc).1 he; omega
    · rintro _ ⟨⟨e, he, rfl⟩, hk⟩ hlt
      obtain ⟨i, hi, rfl⟩ := List.mem_iff_getElem.1 he
      have h1 : ¬ i < cut d l := fun h1 => by rw [(h.has hd hi).2 h1] at hk; cases hk
      rcases Nat.lt_or_ge (cut d l) i with h2 | h2
      · exact kcmp_irrefl _ (kcmp_trans hlt (h.lt hc hi h2))
      · obtain rfl : i = cut d l := by omega
        exact kcmp_irrefl _ hlt
  · rw [List.getElem?_eq_none (by omega)]
    rintro k ⟨⟨e, he, rfl⟩, hk⟩
    obtain ⟨i, hi, rfl⟩ := List.mem_iff_getElem.1 he
    rw [(h.has hd hi).2 (by omega)] at hk
    cases hk
theorem SortedE.greatest {l : List Ent} (h : SortedE l) {d : Key → Bool} (hd : Down d) : Greatest (fun k => (∃ e ∈ l, e.key = k) ∧ d k = true) (if cut d l = 0 then none else (l[cut d l - 1]?).map (·.key)) := by
  have hle := cut_le d l
  by_cases hc : cut d l = 0
  · rw [if_pos hc]
    rintro k ⟨⟨e, he, rfl⟩, hk⟩
    obtain ⟨i, hi, rfl⟩ := List.mem_iff_getElem.1 he
    have := (h.has hd hi).1 hk
    omega
  · have hi0 : cut d l - 1 < l.length := by omega
    rw [if_neg hc, List.getElem?_eq_getElem hi0]
    refine ⟨⟨⟨_, List.getElem_mem hi0, rfl⟩, (h.has hd hi0).2 (by omega)⟩, ?_⟩
    rintro _ ⟨⟨e, he, rfl⟩, hk⟩ hlt
    obtain ⟨i, hi, rfl⟩ := List.mem_iff_getElem.1 he
    have h1 := (h.has hd hi).1 hk
    rcases Nat.lt_or_ge i (cut d l - 1) with h2 | h2
    · exact kcmp_irrefl _ (kcmp_trans hlt (h.lt hi hi0 h2))
    · obtain rfl : i = cut d l - 1 := by omega
      exact kcmp_irrefl _ hlt

/-- All sources stand where a property ends. -/
def stand (d : Key → Bool) (ls : List (List Ent)) : List (List Ent × Int) := ls.map fun l => (l, (cut d l : Int))
theorem least_all {ls : List (List Ent)} (h : ∀ l ∈ ls, SortedE l) {d : Key → Bool} (hd : Down d) : leastK (stand d ls) = ((allE ls)[cut d (allE ls)]?).map (·.key) := by
  unfold leastK stand
  rw [List.map_map]
  have h1 := foldl_less (f := atK ∘ fun l => (l, (cut d l : Int))) (p := fun l k => (∃ e ∈ l, e.key = k) ∧ d k = false) ls (acc := none) (q := fun _ => False) (fun _ h => h) fun l hl => by
    have : (atK ∘ fun l => (l, (cut d l : Int))) l = (l[cut d l]?).map (·.key) := by simp [atK]; intro h; omega
    rw [this]; exact (h l hl).least hd
  refine h1.uniq (fun k => ?_) ((allE_sorted ls).least hd)
  rw [keys_allE]
  constructor
  · rintro (h | ⟨l, hl, he, hk⟩)
    · exact h.elim
    · exact ⟨⟨l, hl, he⟩, hk⟩
  · rintro ⟨⟨l, hl, he⟩, hk⟩; exact .inr ⟨l, hl, he, hk⟩
theorem greatest_all {ls : List (List Ent)} (h : ∀ l ∈ ls, SortedE l) {d : Key → Bool} (hd : Down d) : greatestK (stand d ls) = if cut d (allE ls) = 0 then none else ((allE ls)[cut d (allE ls) - 1]?).map (·.key) := by
  unfold greatestK stand
  rw [List.map_map]
  have h1 := foldl_more (f := priorK ∘ fun l => (l, (cut d l : Int))) (p := fun l k => (∃ e ∈ l, e.key = k) ∧ d k = true) ls (acc := none) (q := fun _ => False) (fun _ h => h) fun l hl => by
    have : (priorK ∘ fun l => (l, (cut d l : Int))) l = if cut d l = 0 then none else (l[cut d l - 1]?).map (·.key) := by
      simp only [priorK, Function.comp, Int.toNat_natCast]
      by_cases h0 : cut d l = 0
      · rw [if_pos (by omega), if_pos h0]
      · rw [if_neg (by omega), if_neg h0]
    rw [this]; exact (h l hl).greatest hd
  refine h1.uniq (fun k => ?_) ((allE_sorted ls).greatest hd)
  rw [keys_allE]
  constructor
  · rintro (h | ⟨l, hl, he, hk⟩)
    · exact h.elim
    · exact ⟨⟨l, hl, he⟩, hk⟩
  · rintro ⟨⟨l, hl, he⟩, hk⟩; exact .inr ⟨l, hl, he, hk⟩

/-- Where one stands: from, and upto. -/
theorem SortedE.cut_at {l : List Ent} (h : SortedE l) {i : Nat} (hi : i < l.length) : cut (fun j => decide (kcmp j l[i].key < 0)) l = i := by
  have h1 := fun {j} (hj : j < l.length) => h.has (down_ahead l[i].key) hj
  have hle := cut_le (fun j => decide (kcmp j l[i].key < 0)) l
  rcases Nat.lt_trichotomy (cut (fun j => decide (kcmp j l[i].key < 0)) l) i with hc | hc | hc
  · have h2 := (h1 (j := cut (fun j => decide (kcmp j l[i].key < 0)) l) (by omega)).1 (by simpa using h.lt (by omega) hi hc)
    omega
  · exact hc
  · have h2 := (h1 hi).2 hc
    simp only [decide_eq_true_eq] at h2
    exact absurd h2 (kcmp_irrefl _)
theorem SortedE.cut_upto {l : List Ent} (h : SortedE l) {i : Nat} (hi : i < l.length) : cut (fun j => !decide (kcmp l[i].key j < 0)) l = i + 1 := by
  have h1 := fun {j} (hj : j < l.length) => h.has (down_upto l[i].key) hj
  have hle := cut_le (fun j => !decide (kcmp l[i].key j < 0)) l
  rcases Nat.lt_trichotomy (cut (fun j => !decide (kcmp l[i].key j < 0)) l) (i + 1) with hc | hc | hc
  · have h2 := (h1 hi).1 (by simpa using kcmp_irrefl _)
    omega
  · exact hc
  · have h2 := (h1 (j := i + 1) (by omega)).2 hc
    simp only [Bool.not_eq_true', decide_eq_false_iff_not] at h2
    exact absurd (h.lt hi (by omega) (Nat.lt_succ_self _)) h2
/-- Behind one's own version: one further, if it stands there. -/
theorem SortedE.upto {l : List Ent} (h : SortedE l) (k : Key) : cut (fun j => !decide (kcmp k j < 0)) l = if (l[aheadN l k]?).map (·.key) = some k then aheadN l k + 1 else aheadN l k := by
  have hd := cut_ahead l k
  have hle := cut_le (fun j => !decide (kcmp k j < 0)) l
  have hle' := cut_le (fun j => decide (kcmp j k < 0)) l
  split
  · rename_i hk
    rw [Option.map_eq_some_iff] at hk
    obtain ⟨e, he, rfl⟩ := hk
    obtain ⟨hi, he'⟩ := List.getElem?_eq_some_iff.1 he
    have h3 := h.cut_upto hi
    rwa [he'] at h3
  · rename_i hk
    have h1 := fun {j} (hj : j < l.length) => h.has (down_upto k) hj
    have h2 := fun {j} (hj : j < l.length) => h.has (down_ahead k) hj
    rw [← hd]
    rw [← hd] at hk
    rcases Nat.lt_trichotomy (cut (fun j => !decide (kcmp k j < 0)) l) (cut (fun j => decide (kcmp j k < 0)) l) with hc | hc | hc
    · exfalso
      have h3 := (h2 (j := cut (fun j => !decide (kcmp k j < 0)) l) (by omega)).2 hc
      have h4 := mt (h1 (j := cut (fun j => !decide (kcmp k j < 0)) l) (by omega)).1 (Nat.lt_irrefl _)
      simp only [decide_eq_true_eq, Bool.not_eq_true', decide_eq_false_iff_not, Decidable.not_not] at h3 h4
      exact kcmp_irrefl _ (kcmp_trans h3 h4)
    · exact hc
    · exfalso
      have hlt : cut (fun j => decide (kcmp j k < 0)) l < l.length := by omega
      have h3 := (h1 hlt).2 hc
      have h4 := mt (h2 hlt).1 (Nat.lt_irrefl _)
      simp only [decide_eq_true_eq, Bool.not_eq_true', decide_eq_false_iff_not] at h3 h4
      rcases kcmp_total l[cut (fun j => decide (kcmp j k < 0)) l].key k with h5 | h5 | h5
      · exact h4 h5
      · exact hk (by rw [List.getElem?_eq_getElem hlt]; simpa using h5)
      · exact h3 h5
/-- Who stands there of a version, in a list in order. -/
theorem SortedE.find {l : List Ent} (h : SortedE l) (k : Key) : l.find? (hasK k) = if (l[aheadN l k]?).map (·.key) = some k then l[aheadN l k]? else none := by
  split
  · rename_i hk
    rw [Option.map_eq_some_iff] at hk
    obtain ⟨e, he, rfl⟩ := hk
    rw [he]
    obtain ⟨hi, he'⟩ := List.getElem?_eq_some_iff.1 he
    refine List.find?_eq_some_iff_append.2 ⟨by simp [hasK], l.take (aheadN l e.key), l.drop (aheadN l e.key + 1), ?_, fun x hx => ?_⟩
    · have h3 := List.drop_eq_getElem_cons hi
      rw [he'] at h3
      rw [← h3, List.take_append_drop]
    · obtain ⟨j, hj, rfl⟩ := List.mem_iff_getElem.1 hx
      simp only [List.length_take] at hj
      have h3 := (h.has (down_ahead e.key) (i := j) (by omega)).2 (by rw [cut_ahead]; omega)
      simp only [decide_eq_true_eq] at h3
      simp only [List.getElem_take, hasK, Bool.not_eq_true', decide_eq_false_iff_not]
      intro h4
      rw [h4] at h3
      exact kcmp_irrefl _ h3
  · rename_i hk
    refine List.find?_eq_none.2 fun x hx hxk => hk ?_
    obtain ⟨i, hi, rfl⟩ := List.mem_iff_getElem.1 hx
    have hxk' : l[i].key = k := by simpa [hasK] using hxk
    have h2 := h.cut_at hi
    rw [cut_ahead, hxk'] at h2
    rw [h2, List.getElem?_eq_getElem hi]
    simp [hxk']
/-- In order so far: one more. -/
theorem SortedE.snoc {l : List Ent} {i : Nat} (hi : i < l.length) (h : SortedE (l.take i)) (h0 : ∀ _ : 0 < i, kcmp (l[i - 1]'(by omega)).key l[i].key < 0) : SortedE (l.take (i + 1)) := by
  rw [List.take_succ_eq_append_getElem hi]
  unfold SortedE
  rw [List.pairwise_append]
  refine ⟨h, List.pairwise_singleton _ _, fun a ha b hb => ?_⟩
  obtain rfl := List.mem_singleton.1 hb
  obtain ⟨j, hj, rfl⟩ := List.mem_iff_getElem.1 ha
  have hj2 : j < i := by simp at hj; omega
  have hi1 : i - 1 < l.length := by omega
  rw [List.getElem_take]
  rcases Nat.lt_or_ge j (i - 1) with h1 | h1
  · have h2 := h.lt (i := j) (j := i - 1) hj (by simp; omega) h1
    rw [List.getElem_take, List.getElem_take] at h2
    exact kcmp_trans h2 (h0 (by omega))
  · obtain rfl : j = i - 1 := by omega
    exact h0 (by omega)
theorem SortedE.adj {l : List Ent} (h : SortedE l) {i : Nat} (hi : i < l.length) (h0 : 0 < i) : kcmp (l[i - 1]'(by omega)).key l[i].key < 0 := h.lt _ _ (by omega)
end Go.Proofs.Yteaanagljmcidaa
namespace Go.Proofs.Yteaanagljmcidaa
open Go.RowKit

attribute [local go_sem ↓] Go.wp_at_zero Go.wp_at_succ

theorem list_ne_at {α : Type} {a b : List α} {k : Nat} (h1 : k < a.length) (h2 : k < b.length) (h : a[k] ≠ b[k]) : a ≠ b := by intro e; subst e; exact h rfl
theorem list_eq_all {α : Type} {a b : List α} (hl : a.length = b.length) (h : ∀ j, j < a.length → a[j]? = b[j]?) : a = b := by
  apply List.ext_getElem?
  intro i
  rcases Nat.lt_or_ge i a.length with hi | hi
  · exact h i hi
  · rw [List.getElem?_eq_none hi, List.getElem?_eq_none (by omega)]

set_option maxHeartbeats 1000000 in
theorem r3_sameEntries (w : World) {F G : Nat → Prop} {x y : Value} (a b : List Ent) (hx : Sl entC w F x a) (hy : Sl entC w G y b) :
    Calls Try.prog 32 #[x, y] w fun e w' => e = .returned (.bool (decide (a = b))) ∧ Ext w w' := by
  obtain ⟨A, cap, rfl, h1, h2, h3, h4⟩ := hx.form
  obtain ⟨B, cap', rfl, g1, g2, g3, g4⟩ := hy.form
  have h3 : a.length ≤ 140737488355328 := h3
  have g3 : b.length ≤ 140737488355328 := g3
  have Hx := Lib.hid hx
  have Hy := Lib.hid hy
  clear h1 h2 h4 g1 g2 g4 hx hy
  by_cases hl : a.length = b.length
  · have hl' : ((a.length : Int) != (b.length : Int)) = false := by simp [hl]
    have HL := Lib.hid hl
    clear hl
    go_enter Try.func32, Try.ntmps32
    go_wp2
    go_loopw [13] (fun i wr => ∃ k : Nat, k ≤ a.length ∧ i = .int .i64 k ∧ (∀ j, j < k → a[j]? = b[j]?) ∧ Ext w wr) (fun i _ => a.length - (intOf i).toNat)
    case atStart => exact ⟨0, Nat.zero_le _, rfl, fun j h => absurd h (by omega), Out.refl _ w⟩
    case round =>
      obtain ⟨k, hk, rfl, hall, hext⟩ := hrel
      have Hall := Lib.hid hall
      clear hall
      by_cases hlt : k < a.length
      · have hlt2 : k < b.length := by rw [← HL.out]; exact hlt
        obtain ⟨b1, o1, u1, v1, rfl, -, c0, c1, c2, c3, hu, hv⟩ := (Hx.out.ext hext).ent k hlt
        obtain ⟨b2, o2, u2, v2, rfl, -, d0, d1, d2, d3, hu', hv'⟩ := (Hy.out.ext hext).ent k hlt2
        have Hext := Lib.hid hext
        clear hext
        by_cases he : a[k] = b[k]
        · have he' : decide (a[k] = b[k]) = true := by simpa using he
          have He := Lib.hid he
          clear he
          go_wp2
          go_region_held3 (fun w' => w'.cell? ⟨b1, o1 + k * 4, none⟩ = some u1 ∧ w'.cell? ⟨b1, o1 + k * 4 + 1, none⟩ = some (u64V a[k].key.seq) ∧ w'.cell? ⟨b1, o1 + k * 4 + 2, none⟩ = some (byteV a[k].key.kind) ∧ w'.cell? ⟨b1, o1 + k * 4 + 3, none⟩ = some v1 ∧ w'.cell? ⟨b2, o2 + k * 4, none⟩ = some u2 ∧ w'.cell? ⟨b2, o2 + k * 4 + 1, none⟩ = some (u64V b[k].key.seq) ∧ w'.cell? ⟨b2, o2 + k * 4 + 2, none⟩ = some (byteV b[k].key.kind) ∧ w'.cell? ⟨b2, o2 + k * 4 + 3, none⟩ = some v2) (first | go_keep | (exact ⟨hx1.cell c0 (fun f => f), hx1.cell c1 (fun f => f), hx1.cell c2 (fun f => f), hx1.cell c3 (fun f => f), hx1.cell d0 (fun f => f), hx1.cell d1 (fun f => f), hx1.cell d2 (fun f => f), hx1.cell d3 (fun f => f)⟩))
            (first | (go_at_call 36; refine (r3_sameEntry _ a[k] b[k] hu.drew hu'.drew hv.drew hv'.drew).mono ?_; rintro e w' ⟨rfl, hx1⟩))
          go_wp2
          go_roundw
          case rel => exact ⟨k + 1, by omega, by go_num, fun j hj => by
            rcases Nat.lt_or_ge j k with h | h
            · exact Hall.out j h
            · obtain rfl : j = k := by omega
              rw [List.getElem?_eq_getElem hlt, List.getElem?_eq_getElem hlt2, He.out], (Hext.out.drew.ext ‹_›)⟩
          case measure => simp [intOf]; omega
        · have he' : decide (a[k] = b[k]) = false := by simpa using he
          have hfin := list_ne_at hlt hlt2 he
          clear he
          go_wp2
          go_region_held3 (fun w' => w'.cell? ⟨b1, o1 + k * 4, none⟩ = some u1 ∧ w'.cell? ⟨b1, o1 + k * 4 + 1, none⟩ = some (u64V a[k].key.seq) ∧ w'.cell? ⟨b1, o1 + k * 4 + 2, none⟩ = some (byteV a[k].key.kind) ∧ w'.cell? ⟨b1, o1 + k * 4 + 3, none⟩ = some v1 ∧ w'.cell? ⟨b2, o2 + k * 4, none⟩ = some u2 ∧ w'.cell? ⟨b2, o2 + k * 4 + 1, none⟩ = some (u64V b[k].key.seq) ∧ w'.cell? ⟨b2, o2 + k * 4 + 2, none⟩ = some (byteV b[k].key.kind) ∧ w'.cell? ⟨b2, o2 + k * 4 + 3, none⟩ = some v2) (first | go_keep | (exact ⟨hx1.cell c0 (fun f => f), hx1.cell c1 (fun f => f), hx1.cell c2 (fun f => f), hx1.cell c3 (fun f => f), hx1.cell d0 (fun f => f), hx1.cell d1 (fun f => f), hx1.cell d2 (fun f => f), hx1.cell d3 (fun f => f)⟩))
            (first | (go_at_call 36; refine (r3_sameEntry _ a[k] b[k] hu.drew hu'.drew hv.drew hv'.drew).mono ?_; rintro e w' ⟨rfl, hx1⟩))
          go_wp2
          go_ret
          exact ⟨retb_of (by simpa using hfin), (Hext.out.drew.ext ‹_›)⟩
      · have hge : a.length ≤ k := by omega
        go_wp2
        go_ret
        exact ⟨retb_of (by simpa using list_eq_all HL.out fun j hj => Hall.out j (by omega)), hext⟩
  · have hl' : ((a.length : Int) != (b.length : Int)) = true := by simp; omega
    have hne : a ≠ b := fun e => hl (by rw [e])
    clear hl
    go_enter Try.func32, Try.ntmps32
    go_wp2
    go_ret
    exact ⟨retb_of (by simpa using hne), Out.refl _ w⟩
end Go.Proofs.Yteaanagljmcidaa
