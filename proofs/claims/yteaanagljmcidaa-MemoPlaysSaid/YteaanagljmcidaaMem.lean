/- Memory predicates: slices that read as lists, over a set of blocks; worlds that differ only within a set of blocks. -/
import Derived.WalkKit
import Derived.WalkSpells
import Derived.WalkLawsBesides
import Derived.Deep.Draws
import Derived.Lib.Hide
import Derived.Maps.AppendAt
namespace Go.Proofs.Yteaanagljmcidaa
open Go.RowKit

/-- Blocks that were there and lie outside S are as they were. -/
structure Out (S : Nat → Prop) (w w' : World) : Prop where
  os : w'.os = w.os
  tape : w'.tape = w.tape
  output : w'.output = w.output
  size : w.heap.size ≤ w'.heap.size
  block : ∀ k, k < w.heap.size → ¬ S k → w'.heap[k]? = w.heap[k]?

/-- All that was there is as it was. -/
abbrev Ext (w w' : World) : Prop := Out (fun _ => False) w w'

theorem Out.refl (S : Nat → Prop) (w : World) : Out S w w := ⟨rfl, rfl, rfl, Nat.le_refl _, fun _ _ _ => rfl⟩
theorem Out.mono {S T : Nat → Prop} {w w' : World} (h : Out S w w') (hs : ∀ k, k < w.heap.size → S k → T k) : Out T w w' :=
  ⟨h.os, h.tape, h.output, h.size, fun k hk hn => h.block k hk fun s => hn (hs k hk s)⟩
theorem Out.trans {S : Nat → Prop} {a b c : World} (h : Out S a b) (k : Out S b c) : Out S a c :=
  ⟨k.os.trans h.os, k.tape.trans h.tape, k.output.trans h.output, Nat.le_trans h.size k.size,
    fun i hi hn => (k.block i (Nat.lt_of_lt_of_le hi h.size) hn).trans (h.block i hi hn)⟩
/-- A step that turns old blocks of S alone, and new ones at will. -/
theorem Out.then {S T : Nat → Prop} {a b c : World} (h : Out S a b) (k : Out T b c) (ht : ∀ i, i < a.heap.size → T i → S i) : Out S a c :=
  ⟨k.os.trans h.os, k.tape.trans h.tape, k.output.trans h.output, Nat.le_trans h.size k.size,
    fun i hi hn => (k.block i (Nat.lt_of_lt_of_le hi h.size) fun t => hn (ht i hi t)).trans (h.block i hi hn)⟩
theorem Out.ext {S : Nat → Prop} {a b c : World} (h : Out S a b) (k : Ext b c) : Out S a c := h.then k fun _ _ f => f.elim
theorem Ext.out {w w' : World} (h : Ext w w') (S : Nat → Prop) : Out S w w' := h.mono fun _ _ f => f.elim
theorem Out.toBelow {S : Nat → Prop} {w w' : World} (h : Out S w w') {B : Nat} (hB : B ≤ w.heap.size) (hs : ∀ k, k < B → ¬ S k) : Below B w w' :=
  ⟨h.os, h.tape, h.output, h.size, fun k hk => h.block k (Nat.lt_of_lt_of_le hk hB) (hs k hk)⟩
theorem Ext.below {w w' : World} (h : Ext w w') : Below w.heap.size w w' := h.toBelow (Nat.le_refl _) fun _ _ f => f
theorem Ext.ofBelow {w w' : World} (h : Below w.heap.size w w') : Ext w w' := ⟨h.os, h.tape, h.output, h.size, fun k hk _ => h.block k hk⟩
theorem Out.ofBelow {B : Nat} {w w' : World} (h : Below B w w') : Out (fun k => B ≤ k) w w' := ⟨h.os, h.tape, h.output, h.size, fun k _ hn => h.block k (by omega)⟩
theorem Out.alloc {S : Nat → Prop} {a w : World} (h : Out S a w) (o : Obj) : Out S a (w.alloc o) :=
  h.then (S := S) (T := fun _ => False) ⟨rfl, rfl, rfl, by simp, fun k hk _ => Below.heap_alloc _ _ _ hk⟩ fun _ _ f => f.elim
theorem Out.drew {S : Nat → Prop} {a w : World} (h : Out S a w) : Out S a w.drew := ⟨h.os, h.tape, h.output, h.size, h.block⟩
theorem Out.drewN {S : Nat → Prop} {a w : World} (h : Out S a w) (n : Nat) : Out S a (w.drewN n) := ⟨h.os, h.tape, h.output, h.size, h.block⟩
theorem Out.setCell {S : Nat → Prop} {a w : World} (h : Out S a w) {p : Addr} (hp : p.block < a.heap.size → S p.block) (u : Value) : Out S a (w.setCell p u) :=
  h.then (T := fun k => k = p.block) ⟨rfl, rfl, rfl, by simp [World.setCell], fun k _ hn => Below.heap_setCell _ _ _ _ hn⟩ fun i hi e => by subst e; exact hp hi
theorem Out.grown {S : Nat → Prop} {a w w' : World} {row : Option Nat} (h : Out S a w) (hg : w.grownBy w' row) (hr : ∀ k, row = some k → k < a.heap.size → S k) : Out S a w' :=
  h.then (T := fun k => some k = row) ⟨hg.os, hg.tape, hg.output, hg.size, fun k hk hn => hg.block k hk hn⟩ fun i hi e => hr i e.symm hi

theorem Out.cell {S : Nat → Prop} {w w' : World} (h : Out S w w') {p : Addr} {v : Value} (hc : w.cell? p = some v) (hs : ¬ S p.block) : w'.cell? p = some v :=
  (World.cell?_of_block (h.block _ (World.block_lt_of_cell? w p hc) hs)).trans hc

/-- A block is still there as it was. -/
theorem Out.blk {S : Nat → Prop} {w w' : World} (h : Out S w w') {g : Nat} {o : Obj} (hb : w.heap[g]? = some o) (hs : ¬ S g) : w'.heap[g]? = some o :=
  (h.block g (Array.getElem?_eq_some_iff.1 hb).1 hs).trans hb
theorem blk_cell {w : World} {g : Nat} {cs : Array Value} {t : TypeId} (h : w.heap[g]? = some (.cells cs t)) (i : Nat) : w.cell? ⟨g, i, none⟩ = cs[i]? := cell_of_row w g i cs t (0, 0) h
theorem blk_free {w : World} {g : Nat} {cs : Array Value} {t : TypeId} (h : w.heap[g]? = some (.cells cs t)) (i : Nat) : w.frozen? ⟨g, i, none⟩ = false := by simp [World.frozen?, h]
theorem blk_lt {w : World} {g : Nat} {o : Obj} (h : w.heap[g]? = some o) : g < w.heap.size := (Array.getElem?_eq_some_iff.1 h).1
theorem blk_new (w : World) (o : Obj) : (w.alloc o).heap[w.heap.size]? = some o := heap_alloc_new w o
theorem blk_alloc {w : World} {g : Nat} {o : Obj} (h : w.heap[g]? = some o) (o' : Obj) : (w.alloc o').heap[g]? = some o := (Below.heap_alloc w o' g (blk_lt h)).trans h
theorem cells1 {w : World} {g : Nat} {a : Value} {t : TypeId} (h : w.heap[g]? = some (.cells #[a] t)) : w.cell? ⟨g, 0, none⟩ = some a ∧ (∀ i, w.frozen? ⟨g, i, none⟩ = false) :=
  ⟨blk_cell h 0, blk_free h⟩
theorem cells2 {w : World} {g : Nat} {a b : Value} {t : TypeId} (h : w.heap[g]? = some (.cells #[a, b] t)) : w.cell? ⟨g, 0, none⟩ = some a ∧ w.cell? ⟨g, 1, none⟩ = some b ∧ (∀ i, w.frozen? ⟨g, i, none⟩ = false) :=
  ⟨blk_cell h 0, blk_cell h 1, blk_free h⟩
theorem cells3 {w : World} {g : Nat} {a b c : Value} {t : TypeId} (h : w.heap[g]? = some (.cells #[a, b, c] t)) : w.cell? ⟨g, 0, none⟩ = some a ∧ w.cell? ⟨g, 1, none⟩ = some b ∧ w.cell? ⟨g, 2, none⟩ = some c ∧ (∀ i, w.frozen? ⟨g, i, none⟩ = false) :=
  ⟨blk_cell h 0, blk_cell h 1, blk_cell h 2, blk_free h⟩
theorem cells4 {w : World} {g : Nat} {a b c d : Value} {t : TypeId} (h : w.heap[g]? = some (.cells #[a, b, c, d] t)) :
    w.cell? ⟨g, 0, none⟩ = some a ∧ w.cell? ⟨g, 1, none⟩ = some b ∧ w.cell? ⟨g, 2, none⟩ = some c ∧ w.cell? ⟨g, 3, none⟩ = some d ∧ (∀ i, w.frozen? ⟨g, i, none⟩ = false) :=
  ⟨blk_cell h 0, blk_cell h 1, blk_cell h 2, blk_cell h 3, blk_free h⟩
theorem cells5 {w : World} {g : Nat} {a b c d e : Value} {t : TypeId} (h : w.heap[g]? = some (.cells #[a, b, c, d, e] t)) :
    w.cell? ⟨g, 0, none⟩ = some a ∧ w.cell? ⟨g, 1, none⟩ = some b ∧ w.cell? ⟨g, 2, none⟩ = some c ∧ w.cell? ⟨g, 3, none⟩ = some d ∧ w.cell? ⟨g, 4, none⟩ = some e ∧ (∀ i, w.frozen? ⟨g, i, none⟩ = false) :=
  ⟨blk_cell h 0, blk_cell h 1, blk_cell h 2, blk_cell h 3, blk_cell h 4, blk_free h⟩

theorem blk_set {w : World} {g : Nat} {cs : Array Value} {t : TypeId} (h : w.heap[g]? = some (.cells cs t)) (i : Nat) (u : Value) : (w.setCell ⟨g, i, none⟩ u).heap[g]? = some (.cells (cs.setIfInBounds i u) t) := by
  simp [World.setCell, Array.getElem?_modify, h]
theorem blk_far {w : World} {g : Nat} {o : Obj} (h : w.heap[g]? = some o) {p : Addr} (hp : g ≠ p.block) (u : Value) : (w.setCell p u).heap[g]? = some o := (Below.heap_setCell w p u g hp).trans h
theorem blk_set4 {w : World} {g : Nat} {a b c d : Value} {t : TypeId} (h : w.heap[g]? = some (.cells #[a, b, c, d] t)) (x y z u : Value) :
    ((((w.setCell ⟨g, 0, none⟩ x).setCell ⟨g, 1, none⟩ y).setCell ⟨g, 2, none⟩ z).setCell ⟨g, 3, none⟩ u).heap[g]? = some (.cells #[x, y, z, u] t) := by
  have := blk_set (blk_set (blk_set (blk_set h 0 x) 1 y) 2 z) 3 u
  simpa using this
theorem blk_set3 {w : World} {g : Nat} {a b c : Value} {t : TypeId} (h : w.heap[g]? = some (.cells #[a, b, c] t)) (x y z : Value) :
    (((w.setCell ⟨g, 0, none⟩ x).setCell ⟨g, 1, none⟩ y).setCell ⟨g, 2, none⟩ z).heap[g]? = some (.cells #[x, y, z] t) := by
  have := blk_set (blk_set (blk_set h 0 x) 1 y) 2 z
  simpa using this
theorem out_set4 {S : Nat → Prop} {w w' : World} (h : Out S w w') {g : Nat} (hg : g < w.heap.size → S g) (x y z u : Value) :
    Out S w ((((w'.setCell ⟨g, 0, none⟩ x).setCell ⟨g, 1, none⟩ y).setCell ⟨g, 2, none⟩ z).setCell ⟨g, 3, none⟩ u) := (((h.setCell hg x).setCell hg y).setCell hg z).setCell hg u
theorem out_set3 {S : Nat → Prop} {w w' : World} (h : Out S w w') {g : Nat} (hg : g < w.heap.size → S g) (x y z : Value) :
    Out S w (((w'.setCell ⟨g, 0, none⟩ x).setCell ⟨g, 1, none⟩ y).setCell ⟨g, 2, none⟩ z) := ((h.setCell hg x).setCell hg y).setCell hg z

/-- What the walk wants behind a step that keeps all that was there. -/
theorem Out.old {w w' : World} (h : Ext w w') : (∀ b o, b < w.heap.size → w'.cell? ⟨b, o, none⟩ = w.cell? ⟨b, o, none⟩) ∧ (∀ b o, b < w.heap.size → w'.frozen? ⟨b, o, none⟩ = w.frozen? ⟨b, o, none⟩) :=
  ⟨fun b o hb => World.cell?_of_block (w := w) (a := ⟨b, o, none⟩) (h.block b hb fun f => f), fun b o hb => World.frozen?_of_block (w := w) (a := ⟨b, o, none⟩) (h.block b hb fun f => f)⟩

/-- The cells from off on in block b are xs. -/
def At (w : World) (b off : Nat) (xs : List Value) : Prop :=
  (∀ i v, xs[i]? = some v → w.cell? ⟨b, off + i, none⟩ = some v) ∧ (∀ i, i < xs.length → w.frozen? ⟨b, off + i, none⟩ = false)
theorem At.cell {w : World} {b off : Nat} {xs : List Value} (h : At w b off xs) : ∀ i v, xs[i]? = some v → w.cell? ⟨b, off + i, none⟩ = some v := h.1
theorem At.free {w : World} {b off : Nat} {xs : List Value} (h : At w b off xs) : ∀ i, i < xs.length → w.frozen? ⟨b, off + i, none⟩ = false := h.2

instance {w : World} {b off : Nat} {xs : List Value} : CoeFun (At w b off xs) fun _ => ∀ i v, xs[i]? = some v → w.cell? ⟨b, off + i, none⟩ = some v := ⟨At.cell⟩

theorem At.frame {w w' : World} {b off : Nat} {xs : List Value} (h : At w b off xs) (hb : b < w.heap.size → w'.heap[b]? = w.heap[b]?) : At w' b off xs :=
  ⟨fun i v hi => by
    have hc := h.cell i v hi
    exact (World.cell?_of_block (w := w) (a := ⟨b, off + i, none⟩) (hb (World.block_lt_of_cell? w _ hc))).trans hc,
  fun i hi => by
    have hc := h.cell i _ (List.getElem?_eq_getElem hi)
    exact (World.frozen?_of_block (w := w) (a := ⟨b, off + i, none⟩) (hb (World.block_lt_of_cell? w _ hc))).trans (h.free i hi)⟩
theorem At.lt {w : World} {b off : Nat} {xs : List Value} (h : At w b off xs) (hx : 0 < xs.length) : b < w.heap.size :=
  World.block_lt_of_cell? w _ (h.cell 0 xs[0] (List.getElem?_eq_getElem hx))

/-- The most elements that a slice may have, where nothing else is said. -/
def big : Nat := 140737488355328

/-- How an element of type α is written in cells; the blocks that its reading leans on lie in F. -/
structure Codec (α : Type) where
  size : Nat
  rep : World → (Nat → Prop) → List Value → α → Prop
  len : ∀ {w F cs a}, rep w F cs a → cs.length = size
  one : ∀ {w F cs a}, rep w F cs a → ∀ u ∈ cs, u.oneCell' = true
  frame : ∀ {w w' F cs a}, rep w F cs a → (∀ b, F b → b < w.heap.size → w'.heap[b]? = w.heap[b]?) → rep w' F cs a
  mono : ∀ {w F G cs a}, rep w F cs a → (∀ b, F b → b < w.heap.size → G b) → rep w G cs a
  bound : Nat := big
  bpos : 1 ≤ bound := by decide

variable {α : Type}

/-- v is a slice value that reads as l. -/
def Sl (c : Codec α) (w : World) (F : Nat → Prop) (v : Value) (l : List α) : Prop :=
  ∃ A cap, v = .slice A l.length cap ∧ l.length ≤ cap ∧ cap ≤ maxLen ∧ l.length ≤ c.bound ∧ (A = none → cap = 0) ∧
    ∀ i (h : i < l.length), ∃ b off cs, A = some ⟨b, off, none⟩ ∧ F b ∧ At w b (off + i * c.size) cs ∧ c.rep w F cs l[i]

theorem Sl.frame {c : Codec α} {w w' : World} {F : Nat → Prop} {v : Value} {l : List α} (h : Sl c w F v l) (hF : ∀ b, F b → b < w.heap.size → w'.heap[b]? = w.heap[b]?) : Sl c w' F v l := by
  obtain ⟨A, cap, hv, h1, h2, h3, h4, h5⟩ := h
  refine ⟨A, cap, hv, h1, h2, h3, h4, fun i hi => ?_⟩
  obtain ⟨b, off, cs, hA, hb, hat, hr⟩ := h5 i hi
  exact ⟨b, off, cs, hA, hb, hat.frame (hF b hb), c.frame hr hF⟩
theorem Sl.mono {c : Codec α} {w : World} {F G : Nat → Prop} {v : Value} {l : List α} (h : Sl c w F v l) (hF : ∀ b, F b → b < w.heap.size → G b) (hs : 0 < c.size ∨ (∀ b, F b → G b)) : Sl c w G v l := by
  obtain ⟨A, cap, hv, h1, h2, h3, h4, h5⟩ := h
  refine ⟨A, cap, hv, h1, h2, h3, h4, fun i hi => ?_⟩
  obtain ⟨b, off, cs, hA, hb, hat, hr⟩ := h5 i hi
  refine ⟨b, off, cs, hA, ?_, hat, c.mono hr hF⟩
  rcases hs with hs | hs
  · exact hF b hb (hat.lt (by rw [c.len hr]; exact hs))
  · exact hs b hb
/-- What lies in F, of which S holds nothing, is still there. -/
theorem Sl.out {c : Codec α} {w w' : World} {S F : Nat → Prop} {v : Value} {l : List α} (h : Sl c w F v l) (ho : Out S w w') (hd : ∀ b, b < w.heap.size → F b → ¬ S b) : Sl c w' F v l :=
  h.frame fun b hb hlt => ho.block b hlt (hd b hlt hb)
theorem Sl.ext {c : Codec α} {w w' : World} {F : Nat → Prop} {v : Value} {l : List α} (h : Sl c w F v l) (ho : Ext w w') : Sl c w' F v l := h.out ho fun _ _ _ f => f

theorem Codec.out {c : Codec α} {w w' : World} {S F : Nat → Prop} {cs : List Value} {a : α} (h : c.rep w F cs a) (ho : Out S w w') (hd : ∀ b, b < w.heap.size → F b → ¬ S b) : c.rep w' F cs a :=
  c.frame h fun b hb hlt => ho.block b hlt (hd b hlt hb)
theorem Codec.ext {c : Codec α} {w w' : World} {F : Nat → Prop} {cs : List Value} {a : α} (h : c.rep w F cs a) (ho : Ext w w') : c.rep w' F cs a := c.out h ho fun _ _ _ f => f

theorem Sl.nil (c : Codec α) (w : World) (F : Nat → Prop) : Sl c w F (.slice none 0 0) [] := ⟨none, 0, rfl, Nat.le_refl _, by simp, Nat.zero_le _, fun _ => rfl, fun i h => absurd h (by simp)⟩

theorem Sl.drew {c : Codec α} {w : World} {F : Nat → Prop} {v : Value} {l : List α} (h : Sl c w F v l) : Sl c w.drew F v l := h.frame fun _ _ _ => rfl
theorem Sl.alloc {c : Codec α} {w : World} {F : Nat → Prop} {v : Value} {l : List α} (h : Sl c w F v l) (o : Obj) : Sl c (w.alloc o) F v l := h.ext ((Out.refl _ w).alloc o)
theorem Ext.alloc1 (w : World) (o : Obj) : Ext w (w.alloc o) := (Out.refl _ w).alloc o

/-- The value written out. -/
theorem Sl.form {c : Codec α} {w : World} {F : Nat → Prop} {v : Value} {l : List α} (h : Sl c w F v l) : ∃ A cap, v = .slice A l.length cap ∧ l.length ≤ cap ∧ cap ≤ maxLen ∧ l.length ≤ c.bound ∧ (A = none → cap = 0) :=
  let ⟨A, cap, hv, h1, h2, h3, h4, _⟩ := h; ⟨A, cap, hv, h1, h2, h3, h4⟩

/-- Element i of a slice written out. -/
theorem Sl.get {c : Codec α} {w : World} {F : Nat → Prop} {A : Option Addr} {n cap : Nat} {l : List α} (h : Sl c w F (.slice A n cap) l) (i : Nat) (hi : i < l.length) :
    ∃ b off cs, A = some ⟨b, off, none⟩ ∧ F b ∧ At w b (off + i * c.size) cs ∧ c.rep w F cs l[i] := by
  obtain ⟨A', cap', hv, _, _, _, _, h5⟩ := h
  injection hv with e1 e2 e3
  subst e1
  exact h5 i hi

/-! ### the codecs -/
abbrev byteV (b : UInt8) : Value := .int .u8 (b.toNat : Int)
abbrev u64V (n : UInt64) : Value := .int .u64 (n.toNat : Int)

def byteC : Codec UInt8 where
  size := 1
  rep _ _ cs a := cs = [byteV a]
  len := fun h => by rw [h]; rfl
  one := fun h u hu => by rw [h] at hu; simp at hu; subst hu; rfl
  frame := fun h _ => h
  mono := fun h _ => h

/-- A byte slice. -/
abbrev Bs (w : World) (F : Nat → Prop) (v : Value) (l : List UInt8) : Prop := Sl byteC w F v l

/-- Bytes, however many: an argument's. -/
def byteCA : Codec UInt8 := { byteC with bound := maxLen, bpos := by decide }
abbrev BsA (w : World) (F : Nat → Prop) (v : Value) (l : List UInt8) : Prop := Sl byteCA w F v l
theorem Sl.toA {w : World} {F : Nat → Prop} {v : Value} {l : List UInt8} (h : Bs w F v l) : BsA w F v l :=
  let ⟨A, cap, hv, h1, h2, _, h4, h5⟩ := h; ⟨A, cap, hv, h1, h2, Nat.le_trans h1 h2, h4, h5⟩
theorem Sl.ofA {w : World} {F : Nat → Prop} {v : Value} {l : List UInt8} (h : BsA w F v l) (hl : l.length ≤ big) : Bs w F v l :=
  let ⟨A, cap, hv, h1, h2, _, h4, h5⟩ := h; ⟨A, cap, hv, h1, h2, hl, h4, h5⟩

structure Key where
  user : List UInt8
  seq : UInt64
  kind : UInt8
  deriving DecidableEq, Inhabited

structure Ent where
  key : Key
  value : List UInt8
  deriving DecidableEq, Inhabited

def keyC : Codec Key where
  size := 3
  rep w F cs k := ∃ u, cs = [u, u64V k.seq, byteV k.kind] ∧ Bs w F u k.user
  len := fun ⟨_, h, _⟩ => by rw [h]; rfl
  one := fun ⟨u, h, hb⟩ x hx => by
    rw [h] at hx; obtain ⟨A, cap, rfl, _⟩ := hb.form
    simp only [List.mem_cons, List.not_mem_nil, or_false] at hx
    rcases hx with rfl | rfl | rfl <;> rfl
  frame := fun ⟨u, h, hb⟩ hF => ⟨u, h, hb.frame hF⟩
  mono := fun ⟨u, h, hb⟩ hF => ⟨u, h, hb.mono hF (.inl (by decide))⟩

def entC : Codec Ent where
  size := 4
  rep w F cs e := ∃ u v, cs = [u, u64V e.key.seq, byteV e.key.kind, v] ∧ Bs w F u e.key.user ∧ Bs w F v e.value
  len := fun ⟨_, _, h, _⟩ => by rw [h]; rfl
  one := fun ⟨u, v, h, hb, hc⟩ x hx => by
    rw [h] at hx; obtain ⟨A, cap, rfl, _⟩ := hb.form; obtain ⟨A', cap', rfl, _⟩ := hc.form
    simp only [List.mem_cons, List.not_mem_nil, or_false] at hx
    rcases hx with rfl | rfl | rfl | rfl <;> rfl
  frame := fun ⟨u, v, h, hb, hc⟩ hF => ⟨u, v, h, hb.frame hF, hc.frame hF⟩
  mono := fun ⟨u, v, h, hb, hc⟩ hF => ⟨u, v, h, hb.mono hF (.inl (by decide)), hc.mono hF (.inl (by decide))⟩

/-- The same of an argument: the slices within may be as long as they like. -/
def keyCA : Codec Key where
  size := 3
  rep w F cs k := ∃ u, cs = [u, u64V k.seq, byteV k.kind] ∧ BsA w F u k.user
  len := fun ⟨_, h, _⟩ => by rw [h]; rfl
  one := fun ⟨u, h, hb⟩ x hx => by
    rw [h] at hx; obtain ⟨A, cap, rfl, _⟩ := hb.form
    simp only [List.mem_cons, List.not_mem_nil, or_false] at hx
    rcases hx with rfl | rfl | rfl <;> rfl
  frame := fun ⟨u, h, hb⟩ hF => ⟨u, h, hb.frame hF⟩
  mono := fun ⟨u, h, hb⟩ hF => ⟨u, h, hb.mono hF (.inl (by decide))⟩
  bound := maxLen
  bpos := by decide
def entCA : Codec Ent where
  size := 4
  rep w F cs e := ∃ u v, cs = [u, u64V e.key.seq, byteV e.key.kind, v] ∧ BsA w F u e.key.user ∧ BsA w F v e.value
  len := fun ⟨_, _, h, _⟩ => by rw [h]; rfl
  one := fun ⟨u, v, h, hb, hc⟩ x hx => by
    rw [h] at hx; obtain ⟨A, cap, rfl, _⟩ := hb.form; obtain ⟨A', cap', rfl, _⟩ := hc.form
    simp only [List.mem_cons, List.not_mem_nil, or_false] at hx
    rcases hx with rfl | rfl | rfl | rfl <;> rfl
  frame := fun ⟨u, v, h, hb, hc⟩ hF => ⟨u, v, h, hb.frame hF, hc.frame hF⟩
  mono := fun ⟨u, v, h, hb, hc⟩ hF => ⟨u, v, h, hb.mono hF (.inl (by decide)), hc.mono hF (.inl (by decide))⟩
  bound := maxLen
  bpos := by decide
theorem Sl.entA {w : World} {F : Nat → Prop} {v : Value} {l : List Ent} (h : Sl entC w F v l) : Sl entCA w F v l := by
  obtain ⟨A, cap, hv, h1, h2, _, h4, h5⟩ := h
  refine ⟨A, cap, hv, h1, h2, Nat.le_trans h1 h2, h4, fun i hi => ?_⟩
  obtain ⟨b, off, cs, hA, hF, hat, x, y, hc, g1, g2⟩ := h5 i hi
  exact ⟨b, off, cs, hA, hF, hat, x, y, hc, g1.toA, g2.toA⟩

/-- A slice as an element. -/
def slC (c : Codec α) (hs : 0 < c.size) : Codec (List α) where
  size := 1
  rep w F cs l := ∃ v, cs = [v] ∧ Sl c w F v l
  len := fun ⟨_, h, _⟩ => by rw [h]; rfl
  one := fun ⟨u, h, hb⟩ x hx => by
    rw [h] at hx; obtain ⟨A, cap, rfl, _⟩ := hb.form
    simp only [List.mem_cons, List.not_mem_nil, or_false] at hx
    subst hx; rfl
  frame := fun ⟨v, h, hb⟩ hF => ⟨v, h, hb.frame hF⟩
  mono := fun ⟨v, h, hb⟩ hF => ⟨v, h, hb.mono hF (.inl hs)⟩

def intC : Codec Int where
  size := 1
  rep _ _ cs a := cs = [.int .i64 a] ∧ -9223372036854775808 ≤ a ∧ a ≤ 9223372036854775807
  len := fun h => by rw [h.1]; rfl
  one := fun h u hu => by rw [h.1] at hu; simp at hu; subst hu; rfl
  frame := fun h _ => h
  mono := fun h _ => h

def u64C : Codec UInt64 where
  size := 1
  rep _ _ cs a := cs = [u64V a]
  len := fun h => by rw [h]; rfl
  one := fun h u hu => by rw [h] at hu; simp at hu; subst hu; rfl
  frame := fun h _ => h
  mono := fun h _ => h

/-! ### a slice that the call owns: its row may be appended to -/
/-- v owns its row (block from B on, of element type e, cells of size c.size), its elements read as l; what they lean on lies in F and is not the row. -/
def Own (c : Codec α) (e : TypeId) (w : World) (B : Nat) (F : Nat → Prop) (v : Value) (l : List α) : Prop :=
  ∃ xs, w.ownsRow B e c.size v l.length xs ∧ ∀ i (h : i < l.length), ∃ cs, (∀ j, j < c.size → xs[i * c.size + j]? = cs[j]?) ∧ c.rep w (fun b => F b ∧ v.ownBlock ≠ some b) cs l[i]

theorem Own.nil (c : Codec α) (e : TypeId) (w : World) (B : Nat) (F : Nat → Prop) : Own c e w B F (.slice none 0 0) [] :=
  ⟨[], World.ownsRow_nil w B e c.size, fun i h => absurd h (by simp)⟩

theorem Own.sl {c : Codec α} {e : TypeId} {w : World} {B : Nat} {F : Nat → Prop} {v : Value} {l : List α} (h : Own c e w B F v l) (_hs : 0 < c.size) (hl : l.length ≤ c.bound) {G : Nat → Prop} (hF : ∀ b, F b → b < w.heap.size → G b) (hB : ∀ b, B ≤ b → b < w.heap.size → G b) : Sl c w G v l := by
  obtain ⟨xs, ho, he⟩ := h
  rcases ho.2 with ⟨rfl, h0⟩ | ⟨g, cap, cur, rfl, hb, hg, hnc, hcm, hcs, htake⟩
  · have : l = [] := List.eq_nil_of_length_eq_zero h0
    subst this
    exact Sl.nil _ _ _
  · have hlt : g < w.heap.size := (Array.getElem?_eq_some_iff.1 hg).1
    refine ⟨_, cap, rfl, hnc, hcm, hl, (fun h => by cases h), fun i hi => ?_⟩
    obtain ⟨cs, hc, hr⟩ := he i hi
    refine ⟨g, 0, cs, rfl, hB g hb hlt, ⟨fun j u hu => ?_, fun j _ => blk_free hg _⟩, c.mono hr fun b hb hlt => hF b hb.1 hlt⟩
    have hj : j < c.size := by
      have := (List.getElem?_eq_some_iff.1 hu).1
      rwa [c.len hr] at this
    rw [cell_of_row w g _ cur e (0, 0) hg]
    have h2 := hc j hj
    rw [← htake, List.getElem?_take, hu] at h2
    split at h2
    · simpa [Nat.add_assoc] using h2
    · cases h2

theorem Own.frame {c : Codec α} {e : TypeId} {w w' : World} {B : Nat} {S F : Nat → Prop} {v : Value} {l : List α} (h : Own c e w B F v l) (ho : Out S w w')
    (hr : ∀ b, b < w.heap.size → B ≤ b → v.ownBlock = some b → ¬ S b) (hF : ∀ b, b < w.heap.size → F b → v.ownBlock ≠ some b → ¬ S b) : Own c e w' B F v l := by
  obtain ⟨xs, ho', he⟩ := h
  refine ⟨xs, ⟨ho'.1, ?_⟩, fun i hi => ?_⟩
  · rcases ho'.2 with hn | ⟨g, cap, cur, rfl, hb, hg, hnc, hcm, hcs, htake⟩
    · exact .inl hn
    · have hlt : g < w.heap.size := (Array.getElem?_eq_some_iff.1 hg).1
      exact .inr ⟨g, cap, cur, rfl, hb, by rw [ho.block g hlt (hr g hlt hb rfl)]; exact hg, hnc, hcm, hcs, htake⟩
  · obtain ⟨cs, hc, hrp⟩ := he i hi
    exact ⟨cs, hc, c.frame hrp fun b hb hlt => ho.block b hlt (hF b hlt hb.1 hb.2)⟩
theorem Own.ext {c : Codec α} {e : TypeId} {w w' : World} {B : Nat} {F : Nat → Prop} {v : Value} {l : List α} (h : Own c e w B F v l) (ho : Ext w w') : Own c e w' B F v l :=
  h.frame ho (fun _ _ _ _ f => f) (fun _ _ _ _ f => f)
theorem Own.mono {c : Codec α} {e : TypeId} {w : World} {B : Nat} {F G : Nat → Prop} {v : Value} {l : List α} (h : Own c e w B F v l) (hF : ∀ b, F b → b < w.heap.size → G b) : Own c e w B G v l := by
  obtain ⟨xs, ho, he⟩ := h
  refine ⟨xs, ho, fun i hi => ?_⟩
  obtain ⟨cs, hc, hr⟩ := he i hi
  exact ⟨cs, hc, c.mono hr fun b hb hlt => ⟨hF b hb.1 hlt, hb.2⟩⟩
theorem Own.lt {c : Codec α} {e : TypeId} {w : World} {B : Nat} {F : Nat → Prop} {v : Value} {l : List α} (h : Own c e w B F v l) : ∀ k, v.ownBlock = some k → B ≤ k ∧ k < w.heap.size :=
  let ⟨_, ho, _⟩ := h; ho.lt
theorem Own.form {c : Codec α} {e : TypeId} {w : World} {B : Nat} {F : Nat → Prop} {v : Value} {l : List α} (h : Own c e w B F v l) : ∃ A cap, v = .slice A l.length cap ∧ l.length ≤ cap := by
  obtain ⟨xs, ho, _⟩ := h
  rcases ho.2 with ⟨rfl, h0⟩ | ⟨g, cap, cur, rfl, hb, hg, hnc, hcm, hcs, htake⟩
  · exact ⟨none, 0, by rw [h0], by omega⟩
  · exact ⟨_, cap, rfl, hnc⟩

/-- How the element type's row of the table fits a codec. -/
structure Fits (P : Program) (t e : TypeId) (size bytes : Nat) : Prop where
  under : P.underlying t = some (.slice e)
  pos : 0 < size
  info : ∃ (i : TypeInfo) (z : Value), P.info? e = some i ∧ i.zero = some z ∧ i.size = size ∧ i.bytes = bytes ∧ z.cells.size = size

theorem fits_of {P : Program} {t e size bytes : Nat} {z : Value} (h : P.underlying t = some (.slice e)) (hp : 0 < size) (hi : (P.info? e).map (fun i => (i.zero, i.size, i.bytes)) = some (some z, size, bytes)) (hz : z.cells.size = size) : Fits P t e size bytes := by
  refine ⟨h, hp, ?_⟩
  cases hh : P.info? e with
  | none => rw [hh] at hi; cases hi
  | some i =>
    rw [hh] at hi
    simp only [Option.map_some, Option.some.injEq, Prod.mk.injEq] at hi
    exact ⟨i, z, rfl, hi.1, hi.2.1, hi.2.2, hz⟩

/-- append of m elements that lie in cells one behind the other. -/
theorem run_append_cells {P : Program} {w : World} {c : Codec α} {t ty e : TypeId} {bytes : Nat} (hf : Fits P t e c.size bytes) {B : Nat} {F : Nat → Prop} {v : Value} {l m : List α}
    (hown : Own c e w B F v l) (hB : B ≤ w.heap.size) (ad : Addr) (cap : Nat) (news : List Value) (hl : news.length = m.length * c.size) (hnews : ∀ j u, news[j]? = some u → w.cell? (ad.add j) = some u)
    (h1 : ∀ u ∈ news, u.oneCell' = true)
    (hrep : ∀ i (h : i < m.length), ∃ cs, (∀ j, j < c.size → news[i * c.size + j]? = cs[j]?) ∧ c.rep w (fun b => F b ∧ v.ownBlock ≠ some b) cs m[i])
    (h63 : (l.length + m.length) * bytes ≤ 140737488355328) (hbp : 0 < bytes) :
    ∃ v' w', (Builtin.append_ #[t, t] ty #[v, .slice (some ad) m.length cap]).run P w = .ok v' w' ∧ Own c e w' B F v' (l ++ m) ∧ w.grownBy w' v.ownBlock ∧ (v'.ownBlock = v.ownBlock ∨ v'.ownBlock = some w.heap.size) := by
  obtain ⟨i, z, hi, hz, hsize, hby, hzs⟩ := hf.info
  obtain ⟨xs, ho, he⟩ := hown
  have hn : l.length + m.length ≤ 140737488355328 := Nat.le_trans (Nat.le_mul_of_pos_right _ hbp) h63
  obtain ⟨v', w', hrun, ho', hg, _, hat⟩ := run_append_own_at (P := P) w B t ty e i z c.size bytes hf.under hi hz hsize hby hzs hf.pos v l.length xs ho ad m.length cap news hl hnews h1 (by unfold maxLen; omega) h63 hB
  refine ⟨v', w', hrun, ⟨xs ++ news, by rw [List.length_append]; exact ho', fun k hk => ?_⟩, hg, hat⟩
  have keep : ∀ {cs : List Value} {a : α}, c.rep w (fun b => F b ∧ v.ownBlock ≠ some b) cs a → c.rep w' (fun b => F b ∧ v'.ownBlock ≠ some b) cs a := by
    intro cs a hr
    have h2 : c.rep w (fun b => F b ∧ v'.ownBlock ≠ some b) cs a := c.mono hr fun b hb hlt => ⟨hb.1, by
      rcases hat with h | h
      · rw [h]; exact hb.2
      · rw [h]; intro e; injection e with e; omega⟩
    have h3 : c.rep w (fun b => (F b ∧ v'.ownBlock ≠ some b) ∧ v.ownBlock ≠ some b) cs a := c.mono hr fun b hb hlt => ⟨⟨hb.1, by
      rcases hat with h | h
      · rw [h]; exact hb.2
      · rw [h]; intro e; injection e with e; omega⟩, hb.2⟩
    have h4 := c.frame (w' := w') h3 fun b hb hlt => hg.block b hlt (fun e => hb.2 e.symm)
    have hlt' : ∀ b, b < w.heap.size → b < w'.heap.size := fun b hb => Nat.lt_of_lt_of_le hb hg.size
    exact c.mono h4 fun b hb _ => hb.1
  have hxl : xs.length = l.length * c.size := ho.1
  by_cases hkl : k < l.length
  · obtain ⟨cs, hc, hr⟩ := he k hkl
    refine ⟨cs, fun j hj => ?_, by rw [List.getElem_append_left hkl]; exact keep hr⟩
    rw [List.getElem?_append_left (by rw [hxl]; calc k * c.size + j < k * c.size + c.size := by omega
      _ = (k + 1) * c.size := by rw [Nat.add_mul, Nat.one_mul]
      _ ≤ l.length * c.size := Nat.mul_le_mul_right _ hkl)]
    exact hc j hj
  · have hk2 : k - l.length < m.length := by rw [List.length_append] at hk; omega
    obtain ⟨cs, hc, hr⟩ := hrep (k - l.length) hk2
    refine ⟨cs, fun j hj => ?_, by rw [List.getElem_append_right (by omega)]; exact keep hr⟩
    have hge : l.length * c.size ≤ k * c.size := Nat.mul_le_mul_right _ (by omega)
    rw [List.getElem?_append_right (by rw [hxl]; omega), hxl, ← hc j hj]
    congr 1
    rw [Nat.sub_mul]; omega

/-- All cells of a slice, one behind the other. -/
theorem Sl.flat {c : Codec α} {w : World} {F : Nat → Prop} {A : Option Addr} {n cap : Nat} {l : List α} (h : Sl c w F (.slice A n cap) l) :
    ∃ news : List Value, news.length = l.length * c.size ∧ (∀ j u, news[j]? = some u → ∃ ad, A = some ad ∧ w.cell? (ad.add j) = some u) ∧ (∀ u ∈ news, u.oneCell' = true) ∧
      ∀ i (h : i < l.length), ∃ cs, (∀ j, j < c.size → news[i * c.size + j]? = cs[j]?) ∧ c.rep w F cs l[i] := by
  obtain ⟨A', cap', hv, _, _, _, _, h5⟩ := h
  injection hv with e1 _ _
  subst e1
  -- by induction on how many elements
  have key : ∀ k, k ≤ l.length → ∃ news : List Value, news.length = k * c.size ∧ (∀ j u, news[j]? = some u → ∃ ad, A = some ad ∧ w.cell? (ad.add j) = some u) ∧ (∀ u ∈ news, u.oneCell' = true) ∧
      ∀ i (h : i < l.length), i < k → ∃ cs, (∀ j, j < c.size → news[i * c.size + j]? = cs[j]?) ∧ c.rep w F cs l[i] := by
    intro k
    induction k with
    | zero => exact fun _ => ⟨[], by simp, fun j u h => by simp at h, fun u h => by simp at h, fun i _ h => absurd h (by omega)⟩
    | succ k ih =>
      intro hk
      obtain ⟨news, hn, hc, h1, hr⟩ := ih (by omega)
      obtain ⟨b, off, cs, hA, hF, hat, hrep⟩ := h5 k (by omega)
      have hcl := c.len hrep
      refine ⟨news ++ cs, by rw [List.length_append, hn, hcl, Nat.add_mul, Nat.one_mul], fun j u hu => ?_, fun u hu => ?_, fun i hi hik => ?_⟩
      · rcases Nat.lt_or_ge j news.length with hj | hj
        · rw [List.getElem?_append_left hj] at hu; exact hc j u hu
        · rw [List.getElem?_append_right hj] at hu
          have := hat _ _ hu
          refine ⟨_, hA, ?_⟩
          have hplain : (⟨b, off, none⟩ : Addr).add j = ⟨b, off + j, none⟩ := by unfold Addr.add; split <;> simp_all
          rw [hplain, ← this]
          congr 2; omega
      · rcases List.mem_append.1 hu with h | h
        · exact h1 u h
        · exact c.one hrep u h
      · by_cases hlt : i < k
        · obtain ⟨cs', hcs, hr'⟩ := hr i hi hlt
          refine ⟨cs', fun j hj => ?_, hr'⟩
          rw [List.getElem?_append_left (by rw [hn]; calc i * c.size + j < i * c.size + c.size := by omega
            _ = (i + 1) * c.size := by rw [Nat.add_mul, Nat.one_mul]
            _ ≤ k * c.size := Nat.mul_le_mul_right _ hlt)]
          exact hcs j hj
        · have : i = k := by omega
          subst this
          refine ⟨cs, fun j hj => ?_, hrep⟩
          rw [List.getElem?_append_right (by omega), hn]
          congr 1; omega
  obtain ⟨news, hn, hc, h1, hr⟩ := key l.length (Nat.le_refl _)
  exact ⟨news, hn, hc, h1, fun i hi => hr i hi hi⟩

/-- append(s, x...): whatever slice x is, nil too. -/
theorem run_append_sl {P : Program} {w : World} {c : Codec α} {t ty e : TypeId} {bytes : Nat} (hf : Fits P t e c.size bytes) {B : Nat} {F : Nat → Prop} {v x : Value} {l m : List α}
    (hown : Own c e w B F v l) (hB : B ≤ w.heap.size) {G : Nat → Prop} (hx : Sl c w G x m) (hG : ∀ i (h : i < m.length) cs, c.rep w G cs m[i] → c.rep w (fun b => F b ∧ v.ownBlock ≠ some b) cs m[i])
    (h63 : (l.length + m.length) * bytes ≤ 140737488355328) (hbp : 0 < bytes) :
    ∃ v' w', (Builtin.append_ #[t, t] ty #[v, x]).run P w = .ok v' w' ∧ Own c e w' B F v' (l ++ m) ∧ w.grownBy w' v.ownBlock ∧ (v'.ownBlock = v.ownBlock ∨ v'.ownBlock = some w.heap.size) := by
  obtain ⟨A, cap, rfl, hm, hcap, hbig, hnil⟩ := hx.form
  obtain ⟨news, hn, hc, h1, hr⟩ := hx.flat
  rcases A with _ | ad
  · have h0 : cap = 0 := hnil rfl
    have hm0 : m = [] := List.eq_nil_of_length_eq_zero (by omega)
    subst hm0
    obtain ⟨i, z, hi, hz, hsize, hby, hzs⟩ := hf.info
    obtain ⟨xs, ho, he⟩ := hown
    refine ⟨v, w, ?_, by simpa using ⟨xs, ho, he⟩, ⟨rfl, rfl, rfl, Nat.le_refl _, fun _ _ _ => rfl⟩, .inl rfl⟩
    rcases ho.2 with ⟨rfl, h0⟩ | ⟨g, cap, cur, rfl, hb, hg, hnc, hcm, hcs, htake⟩
    · simp [Builtin.append_, run_underlying hf.under, sizeOf, typeInfo, hi, Builtin.lenOf, Builtin.firstCells]
    · simp [Builtin.append_, run_underlying hf.under, sizeOf, typeInfo, hi, Builtin.lenOf, Builtin.firstCells, hnc, storeCells]
  · exact run_append_cells hf hown hB ad cap news hn (fun j u hu => by
      obtain ⟨ad', e, h⟩ := hc j u hu
      injection e with e; subst e; exact h) h1 (fun i hi => by
      obtain ⟨cs, h2, h3⟩ := hr i hi
      exact ⟨cs, h2, hG i hi cs h3⟩) h63 hbp

theorem Own.empty (c : Codec α) (e : TypeId) (w : World) (F : Nat → Prop) : Own c e (w.alloc (.cells #[] e)) w.heap.size F (.slice (some ⟨w.heap.size, 0, none⟩) 0 0) [] :=
  ⟨[], ⟨by simp, .inr ⟨w.heap.size, 0, #[], rfl, Nat.le_refl _, heap_alloc_new w _, Nat.le_refl _, by simp, by simp, by simp⟩⟩, fun i h => absurd h (by simp)⟩

theorem Out.ofGrown {w w' : World} {v : Value} (h : w.grownBy w' v.ownBlock) : Out (fun k => v.ownBlock = some k) w w' := ⟨h.os, h.tape, h.output, h.size, fun k hk hn => h.block k hk fun e => hn e.symm⟩

theorem wpList_append_sl {P : Program} {w : World} {ops : Array Oper} {rest : List Oper} {o : Oper} {a : Act} {Q : Exit → Act → World → Prop} (hgd : o.guard = none) (s x : Operand) (t : TypeId)
    (ho : o.op = .call { callee := .builtin .append, args := #[s, x], argTypes := #[t, t] })
    {c : Codec α} {e : TypeId} {bytes : Nat} (hf : Fits P t e c.size bytes) {B : Nat} {F : Nat → Prop} {v xv : Value} {l m : List α}
    (hown : Own c e w B F v l) (hs : a.eval s = v) (hB : B ≤ w.heap.size) {G : Nat → Prop} (hx : Sl c w G xv m) (hxv : a.eval x = xv)
    (hG : ∀ i (h : i < m.length) cs, c.rep w G cs m[i] → c.rep w (fun b => F b ∧ v.ownBlock ≠ some b) cs m[i]) (h63 : (l.length + m.length) * bytes ≤ 140737488355328) (hbp : 0 < bytes)
    (h : ∀ v' w', Own c e w' B F v' (l ++ m) → Out (fun k => v.ownBlock = some k) w w' → (v'.ownBlock = v.ownBlock ∨ v'.ownBlock = some w.heap.size) → wpList P ops Q rest (a.put o.dst v') w') :
    wpList P ops Q (o :: rest) a w := by
  refine wpList_plain hgd fun K hK => ?_
  obtain ⟨v', w', hr, h2, h3, h5⟩ := run_append_sl (P := P) (ty := o.type) hf hown hB hx hG h63 hbp
  unfold Oper.wp execOp
  simp only [ho, resolve, invoke, builtin, Sem.run_bind, Sem.run_pure, Result.andThen_ok, List.map_toArray, List.map_cons, List.map_nil, hs, hxv, hr]
  exact hK _ _ (h v' w' h2 (Out.ofGrown h3) h5)

theorem run_append_one {P : Program} {w : World} {c : Codec α} {t ty e : TypeId} {bytes : Nat} (hf : Fits P t e c.size bytes) {B : Nat} {F : Nat → Prop} {v : Value} {l : List α}
    (hown : Own c e w B F v l) (hB : B ≤ w.heap.size) {g : Nat} {cs : Array Value} {t' : TypeId} (hblk : w.heap[g]? = some (.cells cs t')) (y : α) (hrep : c.rep w (fun b => F b ∧ v.ownBlock ≠ some b) cs.toList y)
    (h63 : (l.length + 1) * bytes ≤ 140737488355328) (hbp : 0 < bytes) :
    ∃ v' w', (Builtin.append_ #[t, t] ty #[v, .slice (some ⟨g, 0, none⟩) 1 1]).run P w = .ok v' w' ∧ Own c e w' B F v' (l ++ [y]) ∧ w.grownBy w' v.ownBlock ∧ (v'.ownBlock = v.ownBlock ∨ v'.ownBlock = some w.heap.size) := by
  have hl := c.len hrep
  refine run_append_cells (m := [y]) hf hown hB ⟨g, 0, none⟩ 1 cs.toList (by simpa using hl) (fun j u hu => ?_) (c.one hrep) (fun i hi => ?_) h63 hbp
  · have hplain : (⟨g, 0, none⟩ : Addr).add j = ⟨g, j, none⟩ := by unfold Addr.add; split <;> simp_all
    rw [hplain, blk_cell hblk]
    simpa using hu
  · have hi0 : i = 0 := by simp at hi; exact hi
    subst hi0
    exact ⟨cs.toList, fun j _ => by simp, hrep⟩

/-- append(s, y): y lies in a block that is known whole. -/
theorem wp_append_one {P : Program} {w : World} {o : Oper} {a : Act} {K : Act → World → Prop} {Q : Exit → Act → World → Prop} (s x : Operand) (t : TypeId)
    (ho : o.op = .call { callee := .builtin .append, args := #[s, x], argTypes := #[t, t] })
    {c : Codec α} {e : TypeId} {bytes : Nat} (hf : Fits P t e c.size bytes) {B : Nat} {F : Nat → Prop} {v : Value} {l : List α}
    (hown : Own c e w B F v l) (hs : a.eval s = v) (hB : B ≤ w.heap.size) {g : Nat} {cs : Array Value} {t' : TypeId} (hblk : w.heap[g]? = some (.cells cs t')) (hxv : a.eval x = .slice (some ⟨g, 0, none⟩) 1 1)
    (y : α) (hrep : c.rep w (fun b => F b ∧ v.ownBlock ≠ some b) cs.toList y) (h63 : (l.length + 1) * bytes ≤ 140737488355328) (hbp : 0 < bytes)
    (h : ∀ v' w', Own c e w' B F v' (l ++ [y]) → Out (fun k => v.ownBlock = some k) w w' → (v'.ownBlock = v.ownBlock ∨ v'.ownBlock = some w.heap.size) → K (a.put o.dst v') w') :
    o.wp P a w K Q := by
  obtain ⟨v', w', hr, h2, h3, h5⟩ := run_append_one (P := P) (ty := o.type) hf hown hB hblk y hrep h63 hbp
  unfold Oper.wp execOp
  simp only [ho, resolve, invoke, builtin, Sem.run_bind, Sem.run_pure, Result.andThen_ok, List.map_toArray, List.map_cons, List.map_nil, hs, hxv, hr]
  exact h v' w' h2 (Out.ofGrown h3) h5

theorem wpList_append_one {P : Program} {w : World} {ops : Array Oper} {rest : List Oper} {o : Oper} {a : Act} {Q : Exit → Act → World → Prop} (hgd : o.guard = none) (s x : Operand) (t : TypeId)
    (ho : o.op = .call { callee := .builtin .append, args := #[s, x], argTypes := #[t, t] })
    {c : Codec α} {e : TypeId} {bytes : Nat} (hf : Fits P t e c.size bytes) {B : Nat} {F : Nat → Prop} {v : Value} {l : List α}
    (hown : Own c e w B F v l) (hs : a.eval s = v) (hB : B ≤ w.heap.size) {g : Nat} {cs : Array Value} {t' : TypeId} (hblk : w.heap[g]? = some (.cells cs t')) (hxv : a.eval x = .slice (some ⟨g, 0, none⟩) 1 1)
    (y : α) (hrep : c.rep w (fun b => F b ∧ v.ownBlock ≠ some b) cs.toList y) (h63 : (l.length + 1) * bytes ≤ 140737488355328) (hbp : 0 < bytes)
    (h : ∀ v' w', Own c e w' B F v' (l ++ [y]) → Out (fun k => v.ownBlock = some k) w w' → (v'.ownBlock = v.ownBlock ∨ v'.ownBlock = some w.heap.size) → wpList P ops Q rest (a.put o.dst v') w') :
    wpList P ops Q (o :: rest) a w :=
  wpList_plain hgd fun _ hK => wp_append_one s x t ho hf hown hs hB hblk hxv y hrep h63 hbp fun v' w' h2 h3 h4 => hK _ _ (h v' w' h2 h3 h4)

theorem step_append_one {P : Program} {w : World} {ops : Array Oper} {o : Oper} {a : Act} {K : Act → World → Prop} {Q : Exit → Act → World → Prop} {E : Prop} (hgd : o.guard = none) (s x : Operand) (t : TypeId)
    (ho : o.op = .call { callee := .builtin .append, args := #[s, x], argTypes := #[t, t] })
    {c : Codec α} {e : TypeId} {bytes : Nat} (hf : Fits P t e c.size bytes) {B : Nat} {F : Nat → Prop} {v : Value} {l : List α}
    (hown : Own c e w B F v l) (hs : a.eval s = v) (hB : B ≤ w.heap.size) {g : Nat} {cs : Array Value} {t' : TypeId} (hblk : w.heap[g]? = some (.cells cs t')) (hxv : a.eval x = .slice (some ⟨g, 0, none⟩) 1 1)
    (y : α) (hrep : c.rep w (fun b => F b ∧ v.ownBlock ≠ some b) cs.toList y) (h63 : (l.length + 1) * bytes ≤ 140737488355328) (hbp : 0 < bytes)
    (h : ∀ v' w', Own c e w' B F v' (l ++ [y]) → Out (fun k => v.ownBlock = some k) w w' → (v'.ownBlock = v.ownBlock ∨ v'.ownBlock = some w.heap.size) → K (a.put o.dst v') w') :
    if Region.wanted o (yielded ops a.tmps) = true then Oper.wp P o a w K Q else E := by
  rw [if_pos (by simp [Region.wanted, hgd])]
  exact wp_append_one s x t ho hf hown hs hB hblk hxv y hrep h63 hbp h

theorem Sl.take {c : Codec α} {w : World} {F : Nat → Prop} {A : Option Addr} {n cap : Nat} {l : List α} (h : Sl c w F (.slice A n cap) l) (k : Nat) (hk : k ≤ l.length) : Sl c w F (.slice A k cap) (l.take k) := by
  have hl : (l.take k).length = k := List.length_take_of_le hk
  obtain ⟨A', cap', hv, h1, h2, h3, h4, h5⟩ := h
  injection hv with e1 e2 e3
  subst e1 e3
  refine ⟨A, cap, by rw [hl], by omega, h2, by omega, h4, fun i hi => ?_⟩
  obtain ⟨b, off, cs, hA, hb, hat, hr⟩ := h5 i (by omega)
  exact ⟨b, off, cs, hA, hb, hat, by rw [List.getElem_take]; exact hr⟩

/-- Is the slice nil? Then it has no element. -/
theorem Sl.eqlNil {P : Program} {c : Codec α} {w0 : World} {F : Nat → Prop} {v : Value} {l : List α} (h : Sl c w0 F v l) {t e : TypeId} (ht : P.underlying t = some (.slice e)) :
    ∃ b, (∀ w, (binOp .eql t v (.slice none 0 0)).run P w = .ok (.bool b) w) ∧ (∀ op x y w, (eqGuard op t x y v (.slice none 0 0)).run P w = .ok () w) ∧ (b = true → l = []) := by
  obtain ⟨A, cap, rfl, h1, h2, h3, h4⟩ := h.form
  refine ⟨A.isNone, fun w => Lib.run_eql_slice_nil w t e A l.length cap 0 0 ht, fun op x y w => ?_, fun hb => ?_⟩
  · cases op <;> simp [eqGuard, Sem.run_pure]
  rw [Option.isNone_iff_eq_none] at hb
  have := h4 hb
  exact List.eq_nil_of_length_eq_zero (by omega)

theorem Sl.entAt {w : World} {F : Nat → Prop} {A : Option Addr} {n cap : Nat} {l : List Ent} (h : Sl entCA w F (.slice A n cap) l) (i : Nat) (hi : i < l.length) :
    ∃ b off u v, A = some ⟨b, off, none⟩ ∧ F b ∧ w.cell? ⟨b, off + i * 4, none⟩ = some u ∧ w.cell? ⟨b, off + i * 4 + 1, none⟩ = some (u64V l[i].key.seq) ∧ w.cell? ⟨b, off + i * 4 + 2, none⟩ = some (byteV l[i].key.kind) ∧
      w.cell? ⟨b, off + i * 4 + 3, none⟩ = some v ∧ BsA w F u l[i].key.user ∧ BsA w F v l[i].value := by
  obtain ⟨b, off, cs, hA, hF, hat, u, v, rfl, h1, h2⟩ := h.get i hi
  exact ⟨b, off, u, v, hA, hF, hat 0 _ rfl, hat 1 _ rfl, hat 2 _ rfl, hat 3 _ rfl, h1, h2⟩
/-- Element i of a slice of entries. -/
theorem Sl.ent {w : World} {F : Nat → Prop} {A : Option Addr} {n cap : Nat} {l : List Ent} (h : Sl entC w F (.slice A n cap) l) (i : Nat) (hi : i < l.length) :
    ∃ b off u v, A = some ⟨b, off, none⟩ ∧ F b ∧ w.cell? ⟨b, off + i * 4, none⟩ = some u ∧ w.cell? ⟨b, off + i * 4 + 1, none⟩ = some (u64V l[i].key.seq) ∧ w.cell? ⟨b, off + i * 4 + 2, none⟩ = some (byteV l[i].key.kind) ∧
      w.cell? ⟨b, off + i * 4 + 3, none⟩ = some v ∧ Bs w F u l[i].key.user ∧ Bs w F v l[i].value := by
  obtain ⟨b, off, cs, hA, hF, hat, u, v, rfl, h1, h2⟩ := h.get i hi
  exact ⟨b, off, u, v, hA, hF, hat 0 _ rfl, hat 1 _ rfl, hat 2 _ rfl, hat 3 _ rfl, h1, h2⟩

theorem le_alloc {B : Nat} {w : World} (h : B ≤ w.heap.size) (o : Obj) : B ≤ (w.alloc o).heap.size := by rw [World.size_alloc]; omega
/-- What is made now is not the row that was made before. -/
theorem fresh_ok {B n : Nat} {v : Value} (hB : B ≤ n) (hlt : ∀ k, v.ownBlock = some k → B ≤ k ∧ k < n) {b : Nat} (hb : n ≤ b) : B ≤ b ∧ v.ownBlock ≠ some b :=
  ⟨Nat.le_trans hB hb, fun e => by have := (hlt b e).2; omega⟩
theorem ent_rep {w : World} {F G H : Nat → Prop} {u v : Value} {e : Ent} (hu : Bs w F u e.key.user) (hv : Bs w G v e.value) (hF : ∀ b, F b → b < w.heap.size → H b) (hG : ∀ b, G b → b < w.heap.size → H b) :
    entC.rep w H [u, u64V e.key.seq, byteV e.key.kind, v] e := ⟨u, v, rfl, hu.mono hF (.inl (by decide)), hv.mono hG (.inl (by decide))⟩
theorem ent_repA {w : World} {F G H : Nat → Prop} {u v : Value} {e : Ent} (hu : BsA w F u e.key.user) (hv : BsA w G v e.value) (hF : ∀ b, F b → b < w.heap.size → H b) (hG : ∀ b, G b → b < w.heap.size → H b) :
    entCA.rep w H [u, u64V e.key.seq, byteV e.key.kind, v] e := ⟨u, v, rfl, hu.mono hF (.inl (by decide)), hv.mono hG (.inl (by decide))⟩
theorem room_take {α : Type} {l : List α} {k n m : Nat} (h : l.length < n) (hm : n * m ≤ 140737488355328) : ((l.take k).length + 1) * m ≤ 140737488355328 :=
  Nat.le_trans (Nat.mul_le_mul_right m (by have := List.length_take_le k l; have := List.length_take_le' k l; omega)) hm
/-- The row that was appended to is one of the call's own. -/
theorem Out.own {a w w' : World} {B : Nat} {v : Value} (h : Ext a w) (k : Out (fun k => v.ownBlock = some k) w w') (hlt : ∀ k, v.ownBlock = some k → B ≤ k) (hB : a.heap.size ≤ B) : Ext a w' :=
  h.then k fun i hi e => by have := hlt i e; omega

/-! ### a byte slice turned to a string -/
theorem byteV_list (l : List UInt8) : l.map byteV = (l.map fun b => (b.toNat : Int)).map (Value.int .u8) := by simp [byteV]

theorem Bs.cells {w : World} {F : Nat → Prop} {A : Option Addr} {n cap : Nat} {l : List UInt8} (h : Bs w F (.slice A n cap) l) (hl : 0 < l.length) :
    ∃ b off, A = some ⟨b, off, none⟩ ∧ F b ∧ At w b off (l.map byteV) := by
  obtain ⟨b, off, cs, hA, hb, _, _⟩ := h.get 0 hl
  have key : ∀ i (hi : i < l.length), w.cell? ⟨b, off + i, none⟩ = some (byteV l[i]) ∧ w.frozen? ⟨b, off + i, none⟩ = false := fun i hi => by
    obtain ⟨b', off', cs', hA', _, hat, hr⟩ := h.get i hi
    rw [hA] at hA'
    injection hA' with e
    injection e with e1 e2
    subst e1 e2
    have hr' : cs' = [byteV l[i]] := hr
    subst hr'
    have h1 := hat.cell 0 (byteV l[i]) rfl
    have h2 := hat.free 0 (by simp)
    simp only [byteC, Nat.mul_one, Nat.add_zero] at h1 h2
    exact ⟨h1, h2⟩
  refine ⟨b, off, hA, hb, fun i v hv => ?_, fun i hi => (key i (by simpa using hi)).2⟩
  rw [List.getElem?_map] at hv
  rcases Nat.lt_or_ge i l.length with hi | hi
  · rw [List.getElem?_eq_getElem hi] at hv
    rw [(key i hi).1]; simpa using hv
  · rw [List.getElem?_eq_none hi] at hv; simp at hv

def strOf (l : List UInt8) : ByteArray := ⟨l.toArray⟩

theorem run_bytes_string {P : Program} {w : World} {F : Nat → Prop} {v : Value} {l : List UInt8} (h : Bs w F v l) {src dst e : TypeId}
    (hs : P.underlying src = some (.slice e)) (he : P.underlying e = some (.int .u8)) (hd : P.underlying dst = some .string) : (convert src dst v).run P w = .ok (.string (strOf l)) w := by
  obtain ⟨A, cap, rfl, h1, h2, h3, h4⟩ := h.form
  rw [run_convert_bytes_string w src dst e A _ _ hs he hd]
  rcases A with _ | ad
  · have h0 : cap = 0 := h4 rfl
    have hl : l = [] := List.eq_nil_of_length_eq_zero (by omega)
    subst hl
    simp [Conv.bytesToString, strOf]; rfl
  · have hl : (loadCells ad l.length).run P w = .ok ((l.map fun b => (b.toNat : Int)).map (Value.int .u8)).toArray w := by
      rw [← byteV_list]
      have := run_loadCells_list (P := P) w ad (l.map byteV) (fun j v hj => by
        have hjl : j < l.length := by
          rcases Nat.lt_or_ge j l.length with hh | hh
          · exact hh
          · rw [List.getElem?_map, List.getElem?_eq_none hh] at hj; simp at hj
        obtain ⟨b, off, hA, _, hat⟩ := Bs.cells h (by omega)
        injection hA with hA
        subst hA
        have hplain : (⟨b, off, none⟩ : Addr).add j = ⟨b, off + j, none⟩ := by unfold Addr.add; split <;> simp_all
        rw [hplain]; exact hat j v hj)
      simpa using this
    rw [run_bytesToString w ad _ cap _ hl, foldl_push_bytes]
    congr 2
    have e : (l.map fun b => (b.toNat : Int)).map (fun n => UInt8.ofNat n.toNat) = l := by
      rw [List.map_map]
      conv => rhs; rw [← List.map_id l]
      exact List.map_congr_left fun a _ => by simp
    rw [e]
    simp [strOf, ByteArray.empty, ByteArray.emptyWithCapacity]
    rfl

/-- The order of byte strings: -1, 0, 1. -/
def bcmp : List UInt8 → List UInt8 → Int
  | [], [] => 0
  | [], _ :: _ => -1
  | _ :: _, [] => 1
  | a :: x, b :: y => if a < b then -1 else if b < a then 1 else bcmp x y

theorem bcmp_range : ∀ a b, -1 ≤ bcmp a b ∧ bcmp a b ≤ 1
  | [], [] => by simp [bcmp]
  | [], _ :: _ => by simp [bcmp]
  | _ :: _, [] => by simp [bcmp]
  | a :: x, b :: y => by
    have := bcmp_range x y
    unfold bcmp; split
    · omega
    · split <;> omega

theorem bcmp_neg : ∀ a b, decide (bcmp a b < 0) = Op.bytesLess a b
  | [], [] => by simp [bcmp, Op.bytesLess]
  | [], _ :: _ => by simp [bcmp, Op.bytesLess]
  | _ :: _, [] => by simp [bcmp, Op.bytesLess]
  | a :: x, b :: y => by
    unfold bcmp Op.bytesLess
    by_cases h : a < b
    · simp [h]
    · by_cases h2 : b < a
      · have hn : a ≠ b := fun e => by subst e; exact h h2
        simp [h, h2, hn]
      · have he : a = b := UInt8.le_antisymm (UInt8.not_lt.1 h2) (UInt8.not_lt.1 h)
        subst he
        simp [h, bcmp_neg x y]

theorem bcmp_zero : ∀ a b, bcmp a b = 0 ↔ a = b
  | [], [] => by simp [bcmp]
  | [], _ :: _ => by simp [bcmp]
  | _ :: _, [] => by simp [bcmp]
  | a :: x, b :: y => by
    unfold bcmp
    by_cases h : a < b
    · have hn : a ≠ b := fun e => by subst e; exact UInt8.lt_irrefl _ h
      simp [h, hn]
    · by_cases h2 : b < a
      · have hn : a ≠ b := fun e => by subst e; exact h h2
        simp [h, h2, hn]
      · have he : a = b := UInt8.le_antisymm (UInt8.not_lt.1 h2) (UInt8.not_lt.1 h)
        subst he
        simp [h, bcmp_zero x y]

theorem strOf_toList (l : List UInt8) : (strOf l).toList = l := by rw [ByteArray.toList_eq]; rfl

end Go.Proofs.Yteaanagljmcidaa
