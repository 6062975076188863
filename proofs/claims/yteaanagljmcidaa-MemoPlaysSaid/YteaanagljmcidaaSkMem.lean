/- The skip list in memory. -/
import Derived.Test.YteaanagljmcidaaMem2
namespace Go.Proofs.Yteaanagljmcidaa
open Go.RowKit

/-- A tower: its entry, the block of its 'next', and what stands there. -/
structure Tw where
  e : Ent
  T : Nat
  nx : List Nat
  deriving Inhabited

def nxV (l : List Nat) : Array Value := (l.map fun n : Nat => Value.int .i64 (n : Int)).toArray

def towC : Codec Tw where
  size := 5
  rep w F cs t := ∃ u v, cs = [u, u64V t.e.key.seq, byteV t.e.key.kind, v, .slice (some ⟨t.T, 0, none⟩) t.nx.length t.nx.length] ∧ Bs w F u t.e.key.user ∧ Bs w F v t.e.value
  len := fun ⟨_, _, h, _⟩ => by rw [h]; rfl
  one := fun ⟨u, v, h, hb, hc⟩ x hx => by
    rw [h] at hx; obtain ⟨A, cap, rfl, _⟩ := hb.form; obtain ⟨A', cap', rfl, _⟩ := hc.form
    simp only [List.mem_cons, List.not_mem_nil, or_false] at hx
    rcases hx with rfl | rfl | rfl | rfl | rfl <;> rfl
  frame := fun ⟨u, v, h, hb, hc⟩ hF => ⟨u, v, h, hb.frame hF, hc.frame hF⟩
  mono := fun ⟨u, v, h, hb, hc⟩ hF => ⟨u, v, h, hb.mono hF (.inl (by decide)), hc.mono hF (.inl (by decide))⟩

/-- Blocks of the list's own numbers: its struct, its towers' 'next'. -/
def Priv (L : Nat) (ts : List Tw) (b : Nat) : Prop := b = L ∨ ∃ t ∈ ts, b = t.T

/-- A skip list at block L, all of it in blocks of Foot. -/
structure Sk (w : World) (Foot : Nat → Prop) (L : Nat) (v : Value) (ts : List Tw) (size : Int) : Prop where
  head : w.heap[L]? = some (.cells #[v, .int .i64 size] 146)
  own : Own towC 143 w 0 (fun b => Foot b ∧ ¬ Priv L ts b) v ts
  footL : Foot L
  row : ∀ k, v.ownBlock = some k → Foot k ∧ ¬ Priv L ts k
  next : ∀ t ∈ ts, Foot t.T ∧ t.T ≠ L ∧ w.heap[t.T]? = some (.cells (nxV t.nx) 3)
  nodup : (ts.map (·.T)).Nodup
  pos : 0 < ts.length
  small : ts.length < 100000

variable {w w' : World} {Foot : Nat → Prop} {L : Nat} {v : Value} {ts : List Tw} {size : Int}

theorem Sk.lt (h : Sk w Foot L v ts size) {b : Nat} (hb : Priv L ts b) : b < w.heap.size := by
  rcases hb with rfl | ⟨t, ht, rfl⟩
  · exact blk_lt h.head
  · exact blk_lt (h.next t ht).2.2

theorem Sk.frame (h : Sk w Foot L v ts size) {S : Nat → Prop} (ho : Out S w w') (hs : ∀ b, b < w.heap.size → Foot b → ¬ S b) : Sk w' Foot L v ts size where
  head := ho.blk h.head (hs L (blk_lt h.head) h.footL)
  own := h.own.frame ho (fun b hb _ he => hs b hb (h.row b he).1) (fun b hb hF _ => hs b hb hF.1)
  footL := h.footL
  row := h.row
  next := fun t ht => ⟨(h.next t ht).1, (h.next t ht).2.1, ho.blk (h.next t ht).2.2 (hs _ (blk_lt (h.next t ht).2.2) (h.next t ht).1)⟩
  nodup := h.nodup
  pos := h.pos
  small := h.small
theorem Sk.ext (h : Sk w Foot L v ts size) (ho : Ext w w') : Sk w' Foot L v ts size := h.frame ho fun _ _ _ f => f
theorem Sk.mono (h : Sk w Foot L v ts size) {G : Nat → Prop} (hg : ∀ b, b < w.heap.size → Foot b → G b) : Sk w G L v ts size where
  head := h.head
  own := h.own.mono fun b hb hlt => ⟨hg b hlt hb.1, hb.2⟩
  footL := hg L (blk_lt h.head) h.footL
  row := fun k hk => ⟨hg k (h.own.lt k hk).2 (h.row k hk).1, (h.row k hk).2⟩
  next := fun t ht => ⟨hg _ (blk_lt (h.next t ht).2.2) (h.next t ht).1, (h.next t ht).2⟩
  nodup := h.nodup
  pos := h.pos
  small := h.small

theorem Own.block {α : Type} {c : Codec α} {e : TypeId} {B : Nat} {F : Nat → Prop} {l : List α} (h : Own c e w B F v l) (hp : 0 < l.length) : ∃ R cap, v = .slice (some ⟨R, 0, none⟩) l.length cap ∧ l.length ≤ cap ∧ B ≤ R ∧ R < w.heap.size := by
  obtain ⟨xs, ho, _⟩ := h
  rcases ho.2 with ⟨rfl, h0⟩ | ⟨g, cap, cur, rfl, hb, hg, hnc, _⟩
  · omega
  · exact ⟨g, cap, rfl, hnc, hb, blk_lt hg⟩

/-- The arena's value written out. -/
theorem Sk.arena (h : Sk w Foot L v ts size) : ∃ R cap, v = .slice (some ⟨R, 0, none⟩) ts.length cap := by
  obtain ⟨R, cap, hv, _⟩ := h.own.block h.pos
  exact ⟨R, cap, hv⟩

/-- A tower's cells. -/
theorem Sk.tower {R cap : Nat} (h : Sk w Foot L (.slice (some ⟨R, 0, none⟩) ts.length cap) ts size) (i : Nat) (hi : i < ts.length) :
    ∃ x y, w.cell? ⟨R, i * 5, none⟩ = some x ∧ w.cell? ⟨R, i * 5 + 1, none⟩ = some (u64V ts[i].e.key.seq) ∧ w.cell? ⟨R, i * 5 + 2, none⟩ = some (byteV ts[i].e.key.kind) ∧ w.cell? ⟨R, i * 5 + 3, none⟩ = some y ∧
      w.cell? ⟨R, i * 5 + 4, none⟩ = some (.slice (some ⟨ts[i].T, 0, none⟩) ts[i].nx.length ts[i].nx.length) ∧ Bs w (fun b => Foot b ∧ ¬ Priv L ts b) x ts[i].e.key.user ∧ Bs w (fun b => Foot b ∧ ¬ Priv L ts b) y ts[i].e.value := by
  have hs := h.own.sl (G := fun b => True) (by decide) (by have := h.small; show _ ≤ 140737488355328; omega) (fun _ _ _ => trivial) (fun _ _ _ => trivial)
  obtain ⟨b, off, cs, hA, _, hat, _⟩ := hs.get i hi
  injection hA with hA
  injection hA with e1 e2
  subst e1 e2
  obtain ⟨xs, ho, he⟩ := h.own
  obtain ⟨cs', hc', x, y, rfl, hb1, hb2⟩ := he i hi
  have key : ∀ j u, j < 5 → [x, u64V ts[i].e.key.seq, byteV ts[i].e.key.kind, y, Value.slice (some ⟨ts[i].T, 0, none⟩) ts[i].nx.length ts[i].nx.length][j]? = some u → w.cell? ⟨R, i * 5 + j, none⟩ = some u := by
    intro j u hj hu
    have h1 := hc' j hj
    rw [hu] at h1
    have h2 := ho.cells (g := R) rfl (i * 5 + j) u h1
    rwa [show (⟨R, 0, none⟩ : Addr).add (i * 5 + j) = ⟨R, i * 5 + j, none⟩ from by unfold Addr.add; split <;> simp_all] at h2
  exact ⟨x, y, key 0 _ (by omega) rfl, key 1 _ (by omega) rfl, key 2 _ (by omega) rfl, key 3 _ (by omega) rfl, key 4 _ (by omega) rfl, hb1.mono (fun b hb _ => hb.1) (.inl (by decide)), hb2.mono (fun b hb _ => hb.1) (.inl (by decide))⟩

/-- A cell of a tower's 'next'. -/
theorem Sk.nxCell (h : Sk w Foot L v ts size) (i : Nat) (hi : i < ts.length) (r : Nat) (hr : r < ts[i].nx.length) : w.cell? ⟨ts[i].T, r, none⟩ = some (.int .i64 (ts[i].nx[r] : Nat)) := by
  have := (h.next ts[i] (List.getElem_mem hi)).2.2
  rw [blk_cell this]
  simp [nxV, hr]
theorem Sk.nxFree (h : Sk w Foot L v ts size) (i : Nat) (hi : i < ts.length) (r : Nat) : w.frozen? ⟨ts[i].T, r, none⟩ = false :=
  blk_free (h.next ts[i] (List.getElem_mem hi)).2.2 r

theorem Sk.cells (h : Sk w Foot L v ts size) : w.cell? ⟨L, 0, none⟩ = some v ∧ w.cell? ⟨L, 1, none⟩ = some (.int .i64 size) ∧ (∀ i, w.frozen? ⟨L, i, none⟩ = false) := cells2 h.head

end Go.Proofs.Yteaanagljmcidaa
