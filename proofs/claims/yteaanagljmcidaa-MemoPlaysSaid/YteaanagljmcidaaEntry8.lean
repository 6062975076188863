/- law08: entry. -/
import Derived.Test.YteaanagljmcidaaMem2
import Derived.Test.YteaanagljmcidaaLeaf2
import Derived.Test.YteaanagljmcidaaProg
import Derived.Lib.ConvBytes
namespace Go.Proofs.Yteaanagljmcidaa
open Go.RowKit

attribute [local go_sem ↓] Go.wp_at_zero Go.wp_at_succ

/-- A string turned to bytes: a new row. -/
theorem conv_ext (w : World) (l : List UInt8) : Ext w (Lib.bytesWorld w 5 (strOf l)) :=
  ⟨rfl, rfl, rfl, by rw [Lib.bytesWorld_size]; omega, fun k hk _ => Lib.bytesWorld_at_old w 5 _ k hk⟩
theorem conv_bs (w : World) (l : List UInt8) (hl : l.length ≤ 1000000) : Bs (Lib.bytesWorld w 5 (strOf l)) (fun b => w.heap.size ≤ b) (.slice (some ⟨w.heap.size, 0, none⟩) (strOf l).size (grownCap w (strOf l).size 0 5)) l := by
  have hs : (strOf l).size = l.length := by simp [strOf, ByteArray.size]
  refine ⟨_, grownCap w (strOf l).size 0 5, by rw [hs], by rw [← hs]; exact grownCap_ge _ _ _ _, grownCap_le_maxLen _ _ _ _ (by rw [hs]; unfold maxLen; omega), by show l.length ≤ 140737488355328; omega, (fun h => by cases h), fun i hi => ?_⟩
  have hfr : ∀ j, j < l.length → (Lib.bytesWorld w 5 (strOf l)).frozen? ⟨w.heap.size, j, none⟩ = false := fun j hj => by
    have h1 : l.length ≤ (Lib.bytesCells w 5 (strOf l)).size := by simp [Lib.bytesCells, strOf]
    have h2 : ¬ (Lib.bytesCells w 5 (strOf l)).size ≤ j := by omega
    simp [World.frozen?, Lib.bytesWorld_at_new, h2]
  refine ⟨w.heap.size, 0, [byteV l[i]], rfl, Nat.le_refl _, ⟨fun j u hu => ?_, fun j hj => ?_⟩, rfl⟩
  rotate_left
  · have hj0 : j = 0 := by simpa using hj
    subst hj0
    rw [show 0 + i * byteC.size + 0 = i from by show 0 + i * 1 + 0 = i; omega]
    exact hfr i hi
  have hj : j = 0 := by
    have := (List.getElem?_eq_some_iff.1 hu).1
    simp at this; exact this
  subst hj
  have := Lib.bytesWorld_cell w 5 (strOf l) i (by rw [hs]; exact hi)
  rw [show 0 + i * byteC.size + 0 = i from by show 0 + i * 1 + 0 = i; omega, this]
  simp [strOf, List.getD, hi] at hu ⊢
  exact hu

set_option maxHeartbeats 400000 in
theorem law08_entry (w : World) (l : List UInt8) (hl : l.length ≤ 1000000) (s : UInt64) : Calls Try.prog 95 #[.string (strOf l), .int .u64 (s.toNat : Int)] w fun r w' => ∃ u, r = .returned (.agg #[u, u64V (⟨⟨l, s, 2⟩, []⟩ : Ent).key.seq, byteV (⟨⟨l, s, 2⟩, []⟩ : Ent).key.kind, .slice none 0 0]) ∧ Ext w w' ∧ Bs w' (fun b => w.heap.size ≤ b) u l := by
  have hcv := fun W => Lib.run_convert_string_bytes (P := Try.prog) W 9 27 5 (strOf l) Try.underlying9 Try.underlying27 Try.underlying5
  have hx := conv_ext (w.alloc (.cells #[.slice none 0 0, .int .u64 0, .int .u8 0, .slice none 0 0] 32)) l
  have hb := conv_bs (w.alloc (.cells #[.slice none 0 0, .int .u64 0, .int .u8 0, .slice none 0 0] 32)) l hl
  rw [World.size_alloc] at hb
  have hz := hx.blk (blk_new w (.cells #[.slice none 0 0, .int .u64 0, .int .u8 0, .slice none 0 0] 32)) (fun f => f)
  obtain ⟨z0, z1, z2, z3, zf⟩ := cells4 hz
  generalize strOf l = sl at *
  have Z := Lib.hid hz
  have Hx := Lib.hid hx
  have Hb := Lib.hid hb
  clear hx hb hz
  go_enter Try.func95, Try.ntmps95
  go_wp2
  generalize Lib.bytesWorld (w.alloc (.cells #[.slice none 0 0, .int .u64 0, .int .u8 0, .slice none 0 0] 32)) 5 sl = W1 at *
  generalize grownCap (w.alloc (.cells #[.slice none 0 0, .int .u64 0, .int .u8 0, .slice none 0 0] 32)) sl.size 0 5 = g at *
  obtain ⟨r0, r1, r2, r3, -⟩ := cells4 (blk_set4 Z.out (.slice (some ⟨w.heap.size + 1, 0, none⟩) sl.size g) (.int .u64 (s.toNat : Int)) (.int .u8 2) (.slice none 0 0))
  have ho := out_set4 (S := fun k => k = w.heap.size) (Out.refl _ W1) (g := w.heap.size) (fun _ => rfl) (.slice (some ⟨w.heap.size + 1, 0, none⟩) sl.size g) (.int .u64 (s.toNat : Int)) (.int .u8 2) (.slice none 0 0)
  have hx2 : Ext w W1 := (Ext.alloc1 w _).trans Hx.out
  refine bodyPost_ret (v := .agg #[.slice (some ⟨w.heap.size + 1, 0, none⟩) sl.size g, .int .u64 (s.toNat : Int), .int .u8 2, .slice none 0 0]) (by simp [results, Try.results95, go_sem, r0, r1, r2, r3]) rfl ⟨_, rfl, out_set4 hx2 (by simp) _ _ _ _, ?_⟩
  exact (Hb.out.out ho (fun b _ hb => by omega)).mono (fun b hb _ => by omega) (.inl (by decide))
end Go.Proofs.Yteaanagljmcidaa
