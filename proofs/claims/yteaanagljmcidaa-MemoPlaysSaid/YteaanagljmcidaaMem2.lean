/- More on memory. -/
import Derived.Test.YteaanagljmcidaaMem
namespace Go.Proofs.Yteaanagljmcidaa
open Go.RowKit
variable {α : Type}

/-- The value is a slice; nothing is said of its length (for the walk). -/
theorem Sl.form0 {c : Codec α} {w : World} {F : Nat → Prop} {v : Value} {l : List α} (h : Sl c w F v l) : ∃ A n cap, v = .slice A n cap :=
  let ⟨A, cap, hv, _⟩ := h; ⟨A, _, cap, hv⟩
theorem Own.form0 {c : Codec α} {e : TypeId} {w : World} {B : Nat} {F : Nat → Prop} {v : Value} {l : List α} (h : Own c e w B F v l) : ∃ A n cap, v = .slice A n cap :=
  let ⟨A, cap, hv, _⟩ := h.form; ⟨A, _, cap, hv⟩

theorem cell_alloc {w : World} {p : Addr} {v : Value} (h : w.cell? p = some v) (o : Obj) : (w.alloc o).cell? p = some v := (Ext.alloc1 w o).cell h (fun f => f)
theorem Own.ne_new {c : Codec α} {e : TypeId} {w : World} {B : Nat} {F : Nat → Prop} {v : Value} {l : List α} (h : Own c e w B F v l) : ¬ v.ownBlock = some w.heap.size := fun e => by have := (h.lt _ e).2; omega
/-- A slice of one element that lies in a block known whole. -/
theorem Sl.one {c : Codec α} {w : World} {F : Nat → Prop} {g : Nat} {cs : Array Value} {t : TypeId} (h : w.heap[g]? = some (.cells cs t)) {y : α} (hr : c.rep w F cs.toList y) (hg : F g) : Sl c w F (.slice (some ⟨g, 0, none⟩) 1 1) [y] := by
  refine ⟨_, 1, rfl, by simp, by simp [maxLen], c.bpos, (fun h => by cases h), fun i hi => ?_⟩
  have hi0 : i = 0 := by simpa using hi
  subst hi0
  refine ⟨g, 0, cs.toList, rfl, hg, ⟨fun j u hu => ?_, fun j _ => blk_free h _⟩, by simpa using hr⟩
  rw [show 0 + 0 * c.size + j = j from by omega, blk_cell h]
  simpa using hu

/-- The first entry of a slice, at its own address. -/
theorem Sl.ent0 {w : World} {F : Nat → Prop} {v : Value} {e : Ent} {l : List Ent} (h : Sl entC w F v (e :: l)) :
    ∃ b off cap x y, v = .slice (some ⟨b, off, none⟩) (e :: l).length cap ∧ F b ∧ w.cell? ⟨b, off, none⟩ = some x ∧ w.cell? ⟨b, off + 1, none⟩ = some (u64V e.key.seq) ∧ w.cell? ⟨b, off + 2, none⟩ = some (byteV e.key.kind) ∧
      w.cell? ⟨b, off + 3, none⟩ = some y ∧ Bs w F x e.key.user ∧ Bs w F y e.value := by
  obtain ⟨A, cap, rfl, _⟩ := h.form
  obtain ⟨b, off, x, y, rfl, hF, c0, c1, c2, c3, h1, h2⟩ := h.ent 0 (by simp)
  simp only [Nat.zero_mul, Nat.add_zero, List.getElem_cons_zero] at c0 c1 c2 c3 h1 h2
  exact ⟨b, off, cap, x, y, rfl, hF, c0, c1, c2, c3, h1, h2⟩

theorem blk_at {w : World} {o : Obj} {n : Nat} (h : w.heap.size = n) : (w.alloc o).heap[n]? = some o := by subst h; exact blk_new w o
theorem blk_atD {w : World} {o : Obj} {n : Nat} (h : w.heap.size = n) : (w.alloc o).drew.heap[n]? = some o := blk_at h

/-- An entry and a height. -/
structure PutE where
  e : Ent
  h : Int
  deriving Inhabited

def putC : Codec PutE where
  size := 5
  rep w F cs p := ∃ u v, cs = [u, u64V p.e.key.seq, byteV p.e.key.kind, v, .int .i64 p.h] ∧ Bs w F u p.e.key.user ∧ Bs w F v p.e.value ∧ -9223372036854775808 ≤ p.h ∧ p.h ≤ 9223372036854775807
  len := fun ⟨_, _, h, _⟩ => by rw [h]; rfl
  one := fun ⟨u, v, h, hb, hc, _⟩ x hx => by
    rw [h] at hx; obtain ⟨A, cap, rfl, _⟩ := hb.form; obtain ⟨A', cap', rfl, _⟩ := hc.form
    simp only [List.mem_cons, List.not_mem_nil, or_false] at hx
    rcases hx with rfl | rfl | rfl | rfl | rfl <;> rfl
  frame := fun ⟨u, v, h, hb, hc, hd⟩ hF => ⟨u, v, h, hb.frame hF, hc.frame hF, hd⟩
  mono := fun ⟨u, v, h, hb, hc, hd⟩ hF => ⟨u, v, h, hb.mono hF (.inl (by decide)), hc.mono hF (.inl (by decide)), hd⟩

def putCA : Codec PutE where
  size := 5
  rep w F cs p := ∃ u v, cs = [u, u64V p.e.key.seq, byteV p.e.key.kind, v, .int .i64 p.h] ∧ BsA w F u p.e.key.user ∧ BsA w F v p.e.value ∧ -9223372036854775808 ≤ p.h ∧ p.h ≤ 9223372036854775807
  len := fun ⟨_, _, h, _⟩ => by rw [h]; rfl
  one := fun ⟨u, v, h, hb, hc, _⟩ x hx => by
    rw [h] at hx; obtain ⟨A, cap, rfl, _⟩ := hb.form; obtain ⟨A', cap', rfl, _⟩ := hc.form
    simp only [List.mem_cons, List.not_mem_nil, or_false] at hx
    rcases hx with rfl | rfl | rfl | rfl | rfl <;> rfl
  frame := fun ⟨u, v, h, hb, hc, hd⟩ hF => ⟨u, v, h, hb.frame hF, hc.frame hF, hd⟩
  mono := fun ⟨u, v, h, hb, hc, hd⟩ hF => ⟨u, v, h, hb.mono hF (.inl (by decide)), hc.mono hF (.inl (by decide)), hd⟩
  bound := maxLen
  bpos := by decide
theorem Sl.putAt {w : World} {F : Nat → Prop} {A : Option Addr} {n cap : Nat} {l : List PutE} (h : Sl putCA w F (.slice A n cap) l) (i : Nat) (hi : i < l.length) :
    ∃ b off u v, A = some ⟨b, off, none⟩ ∧ F b ∧ w.cell? ⟨b, off + i * 5, none⟩ = some u ∧ w.cell? ⟨b, off + i * 5 + 1, none⟩ = some (u64V l[i].e.key.seq) ∧ w.cell? ⟨b, off + i * 5 + 2, none⟩ = some (byteV l[i].e.key.kind) ∧
      w.cell? ⟨b, off + i * 5 + 3, none⟩ = some v ∧ w.cell? ⟨b, off + i * 5 + 4, none⟩ = some (.int .i64 l[i].h) ∧ BsA w F u l[i].e.key.user ∧ BsA w F v l[i].e.value ∧ -9223372036854775808 ≤ l[i].h ∧ l[i].h ≤ 9223372036854775807 := by
  obtain ⟨b, off, cs, hA, hF, hat, u, v, rfl, h1, h2, h3⟩ := h.get i hi
  exact ⟨b, off, u, v, hA, hF, hat 0 _ rfl, hat 1 _ rfl, hat 2 _ rfl, hat 3 _ rfl, hat 4 _ rfl, h1, h2, h3⟩
theorem Sl.put {w : World} {F : Nat → Prop} {A : Option Addr} {n cap : Nat} {l : List PutE} (h : Sl putC w F (.slice A n cap) l) (i : Nat) (hi : i < l.length) :
    ∃ b off u v, A = some ⟨b, off, none⟩ ∧ F b ∧ w.cell? ⟨b, off + i * 5, none⟩ = some u ∧ w.cell? ⟨b, off + i * 5 + 1, none⟩ = some (u64V l[i].e.key.seq) ∧ w.cell? ⟨b, off + i * 5 + 2, none⟩ = some (byteV l[i].e.key.kind) ∧
      w.cell? ⟨b, off + i * 5 + 3, none⟩ = some v ∧ w.cell? ⟨b, off + i * 5 + 4, none⟩ = some (.int .i64 l[i].h) ∧ Bs w F u l[i].e.key.user ∧ Bs w F v l[i].e.value ∧ -9223372036854775808 ≤ l[i].h ∧ l[i].h ≤ 9223372036854775807 := by
  obtain ⟨b, off, cs, hA, hF, hat, u, v, rfl, h1, h2, h3⟩ := h.get i hi
  exact ⟨b, off, u, v, hA, hF, hat 0 _ rfl, hat 1 _ rfl, hat 2 _ rfl, hat 3 _ rfl, hat 4 _ rfl, h1, h2, h3⟩
theorem Sl.drewN {c : Codec α} {w : World} {F : Nat → Prop} {v : Value} {l : List α} (h : Sl c w F v l) (n : Nat) : Sl c (w.drewN n) F v l := h.frame fun _ _ _ => rfl
end Go.Proofs.Yteaanagljmcidaa
