/- law14: what the laws share. -/
import Derived.Test.YteaanagljmcidaaAwake14
import Derived.Test.YteaanagljmcidaaMergeSelfP
namespace Go.Proofs.Yteaanagljmcidaa
open Go.RowKit

theorem few14_all (b : Bool) (ls : List (List Ent)) : (allE (few14 b ls)).length ≤ 1000 := by
  have h1 := allE_length (few14 b ls)
  have h2 := sum_leM (ls := few14 b ls) (n := 16) fun l hl => few14_mem hl
  have h3 := few14_le b ls
  have h4 : (few14 b ls).length * 16 ≤ 6 * 16 := Nat.mul_le_mul_right _ h3
  omega
theorem OwnedM.slM {w w' : World} {v : Value} {l : List Ent} (h : Own entC 32 w' w.heap.size (fun b => w.heap.size ≤ b) v l) (hl : l.length ≤ 1000) : Sl entC w' (fun b => w.heap.size ≤ b) v l :=
  h.sl (by decide) (by show _ ≤ 140737488355328; omega) (fun b hb _ => hb) (fun b hb _ => hb)
theorem r3_sameEntReflM {w : World} {F F' G G' : Nat → Prop} {u u' v v' : Value} (a : Ent) (hu : Bs w F u a.key.user) (hv : Bs w G v a.key.user) (hu' : Bs w F' u' a.value) (hv' : Bs w G' v' a.value) :
    Calls Try.prog 36 #[.agg #[u, u64V a.key.seq, byteV a.key.kind, u'], .agg #[v, u64V a.key.seq, byteV a.key.kind, v']] w fun e w' => e = .returned (.bool true) ∧ Ext w w' := by
  have h := r3_sameEntry w a a hu hv hu' hv'
  rwa [decide_eq_true rfl] at h
theorem r3_sameSelfM {w : World} {F G : Nat → Prop} {x y : Value} {a : List Ent} (hx : Sl entC w F x a) (hy : Sl entC w G y a) : Calls Try.prog 32 #[x, y] w fun e w' => e = .returned (.bool true) ∧ Ext w w' := by
  have h := r3_sameEntries w a a hx hy
  rwa [decide_eq_true rfl] at h
/-- A key's box bears the cut key. -/
theorem key_cutM {w0 w' : World} {g B : Nat} {K : Key} {u0 x : Value} {l : List UInt8} (HK : w'.heap[g]? = some (.cells #[u0, u64V K.seq, byteV K.kind] 30))
    (H1 : Own byteC 5 w' B (fun _ => False) x ([] ++ l)) (hl : l.length ≤ 80) (hx : Ext w0 w') (hg : w0.heap.size ≤ g) (hB : g < B) :
    ∃ (k' : Key) (u' : Value), (w'.setCell ⟨g, 0, none⟩ x).heap[g]? = some (.cells #[u', u64V k'.seq, byteV k'.kind] 30) ∧
      Bs (w'.setCell ⟨g, 0, none⟩ x) (fun b => g < b ∧ b < (w'.setCell ⟨g, 0, none⟩ x).heap.size) u' k'.user ∧ Ext w0 (w'.setCell ⟨g, 0, none⟩ x) := by
  have ho : Out (fun b => b = g) w' (w'.setCell ⟨g, 0, none⟩ x) := (Out.refl (fun b => b = g) w').setCell (p := ⟨g, 0, none⟩) (fun _ => rfl) _
  refine ⟨⟨l, K.seq, K.kind⟩, x, by have := blk_set HK 0 x; simpa using this, ?_, hx.then ho (fun i hi e => by omega)⟩
  have g1 := H1.sl (G := fun b => g < b ∧ b < w'.heap.size) (by decide) (by rw [List.nil_append]; show _ ≤ 140737488355328; omega) (fun b hb _ => hb.elim) (fun b hb hl => ⟨by omega, hl⟩)
  rw [List.nil_append] at g1
  have hsz := ho.size
  exact (g1.out ho (fun b _ hb e => by omega)).mono (fun b hb _ => ⟨hb.1, by omega⟩) (.inl (by decide))
theorem place_le (ls : List (List Ent)) (k : Key) : aheadN (allE ls) k ≤ (allE ls).length := aheadN_le _ _
theorem place_ahead {ls : List (List Ent)} {k : Key} {i : Nat} (hi : i < (allE ls).length) (h : i < aheadN (allE ls) k) : kless (allE ls)[i].key k = true := by
  rw [kless_eq]
  have := ((allE_sorted ls).has (down_ahead k) hi).2 (by rw [cut_ahead]; exact h)
  simpa using this
theorem place_not {ls : List (List Ent)} {k : Key} {i : Nat} (hi : i < (allE ls).length) (h : aheadN (allE ls) k ≤ i) : kless (allE ls)[i].key k = false := by
  rw [kless_eq]
  have := mt ((allE_sorted ls).has (down_ahead k) hi).1 (by rw [cut_ahead]; omega)
  simpa using this
end Go.Proofs.Yteaanagljmcidaa
