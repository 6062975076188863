/- An entry of its own: Twin, copyOf, one. -/
import Derived.Test.YteaanagljmcidaaSame
namespace Go.Proofs.Yteaanagljmcidaa
open Go.RowKit

attribute [local go_sem ↓] Go.wp_at_zero Go.wp_at_succ

/-- An entry of its own comes back. -/
def EntCopied (w : World) (e : Ent) (x : Ending) (w' : World) : Prop :=
  ∃ u v, x = .returned (.agg #[u, u64V e.key.seq, byteV e.key.kind, v]) ∧ Ext w w' ∧ Bs w' (fun b => w.heap.size ≤ b) u e.key.user ∧ Bs w' (fun b => w.heap.size ≤ b) v e.value

set_option maxRecDepth 100000 in
set_option maxHeartbeats 1000000 in
theorem r3_twin (w : World) {F G : Nat → Prop} {u v : Value} (e : Ent) (hu : Bs w F u e.key.user) (hv : Bs w G v e.value) :
    Calls Try.prog 39 #[.agg #[u, u64V e.key.seq, byteV e.key.kind, v]] w (EntCopied w e) := by
  have hx : Ext w ((w.alloc (.cells #[u, u64V e.key.seq, byteV e.key.kind, v] 32)).alloc (.cells #[.slice none 0 0, .int .u64 0, .int .u8 0, .slice none 0 0] 32)) := ((Out.refl _ w).alloc _).alloc _
  have hu' := (hu.ext hx).drew
  have hv' := (hv.ext hx).drew
  have z1 := blk_alloc (blk_new w (.cells #[u, u64V e.key.seq, byteV e.key.kind, v] 32)) (.cells #[.slice none 0 0, .int .u64 0, .int .u8 0, .slice none 0 0] 32)
  have z2 := blk_new (w.alloc (.cells #[u, u64V e.key.seq, byteV e.key.kind, v] 32)) (.cells #[.slice none 0 0, .int .u64 0, .int .u8 0, .slice none 0 0] 32)
  obtain ⟨g0, g1, g2, g3, -⟩ := cells4 z1
  rw [World.size_alloc] at z2
  have Z2 := Lib.hid z2
  clear z1 z2
  have Hx := Lib.hid hx
  clear hx
  go_enter Try.func39, Try.ntmps39
  go_wp2
  go_region_held3 (fun w' => w'.cell? ⟨w.heap.size, 0, none⟩ = some u ∧ w'.cell? ⟨w.heap.size, 1, none⟩ = some (u64V e.key.seq) ∧ w'.cell? ⟨w.heap.size, 2, none⟩ = some (byteV e.key.kind) ∧ w'.cell? ⟨w.heap.size, 3, none⟩ = some v) (first | go_keep | (refine ⟨?_, ?_, ?_, ?_⟩ <;> exact hx1.cell (by assumption) (fun f => f)) | (refine ⟨?_, ?_, ?_, ?_⟩ <;> exact hx2.cell (hx1.cell (by assumption) (fun f => f)) (fun f => f)))
    (first | (go_at_call 80; refine (r1_copy _ hu').mono ?_; rintro x w1 ⟨x1, rfl, hx1, hb1⟩; obtain ⟨A1, n1, rfl, q1⟩ := hb1.form; clear q1) | (go_at_call 80; refine (r1_copy _ (hv'.ext hx1)).mono ?_; rintro x w2 ⟨x2, rfl, hx2, hb2⟩; obtain ⟨A2, n2, rfl, q2⟩ := hb2.form; clear q2; obtain ⟨k0, k1, k2, k3, kf⟩ := cells4 (hx2.blk (hx1.blk Z2.out (fun f => f)) (fun f => f))))
  go_wp2
  obtain ⟨r0, r1, r2, r3, -⟩ := cells4 (blk_set4 (hx2.blk (hx1.blk Z2.out (fun f => f)) (fun f => f)) (.slice A1 e.key.user.length n1) (u64V e.key.seq) (byteV e.key.kind) (.slice A2 e.value.length n2))
  refine bodyPost_ret (v := .agg #[.slice A1 e.key.user.length n1, u64V e.key.seq, byteV e.key.kind, .slice A2 e.value.length n2]) (by simp [results, Try.results39, go_sem, r0, r1, r2, r3]) rfl ⟨_, _, rfl, ?_, ?_, ?_⟩
  · exact out_set4 ((Hx.out.drew.ext hx1).ext hx2) (by simp) _ _ _ _
  · have h3 := hx1.size
    simp only [World.size_drew, World.size_alloc] at h3
    refine ((hb1.ext hx2).out (out_set4 (S := fun k => k = w.heap.size + 1) (Out.refl _ _) (fun _ => rfl) _ _ _ _) (fun b _ hb => ?_)).mono (fun b hb _ => ?_) (.inl (by decide)) <;> simp at * <;> omega
  · have h3 := hx1.size
    simp only [World.size_drew, World.size_alloc] at h3
    refine (hb2.out (out_set4 (S := fun k => k = w.heap.size + 1) (Out.refl _ _) (fun _ => rfl) _ _ _ _) (fun b _ hb => ?_)).mono (fun b hb _ => ?_) (.inl (by decide)) <;> simp at * <;> omega

set_option maxRecDepth 100000 in
set_option maxHeartbeats 1000000 in
theorem skip_copyOf (w : World) {F G : Nat → Prop} {u v : Value} (e : Ent) (hu : Bs w F u e.key.user) (hv : Bs w G v e.value) :
    Calls Try.prog 99 #[.agg #[u, u64V e.key.seq, byteV e.key.kind, v]] w (EntCopied w e) := by
  have hx : Ext w ((w.alloc (.cells #[u, u64V e.key.seq, byteV e.key.kind, v] 32)).alloc (.cells #[.slice none 0 0, .int .u64 0, .int .u8 0, .slice none 0 0] 32)) := ((Out.refl _ w).alloc _).alloc _
  have hu' := (hu.ext hx).drew
  have hv' := (hv.ext hx).drew
  have z1 := blk_alloc (blk_new w (.cells #[u, u64V e.key.seq, byteV e.key.kind, v] 32)) (.cells #[.slice none 0 0, .int .u64 0, .int .u8 0, .slice none 0 0] 32)
  have z2 := blk_new (w.alloc (.cells #[u, u64V e.key.seq, byteV e.key.kind, v] 32)) (.cells #[.slice none 0 0, .int .u64 0, .int .u8 0, .slice none 0 0] 32)
  obtain ⟨g0, g1, g2, g3, -⟩ := cells4 z1
  rw [World.size_alloc] at z2
  have Z1 := Lib.hid z1
  have Z2 := Lib.hid z2
  clear z1 z2
  have Hx := Lib.hid hx
  clear hx
  go_enter Try.func99, Try.ntmps99
  go_wp2
  go_region_with (first | (go_at_call 122; refine (bytes_clone _ hu').mono ?_; rintro x w1 ⟨x1, rfl, hx1, hb1⟩; obtain ⟨A1, n1, rfl, q1⟩ := hb1.form; clear q1; obtain ⟨j0, j1, j2, j3, jf⟩ := cells4 (hx1.blk Z1.out (fun f => f))) | (go_at_call 122; refine (bytes_clone _ (hv'.ext hx1)).mono ?_; rintro x w2 ⟨x2, rfl, hx2, hb2⟩; obtain ⟨A2, n2, rfl, q2⟩ := hb2.form; clear q2; obtain ⟨k0, k1, k2, k3, kf⟩ := cells4 (hx2.blk (hx1.blk Z1.out (fun f => f)) (fun f => f)); obtain ⟨m0, m1, m2, m3, mf⟩ := cells4 (hx2.blk (hx1.blk Z2.out (fun f => f)) (fun f => f))))
  all_goals
    have y1 := blk_set (blk_set (hx2.blk (hx1.blk Z1.out (fun f => f)) (fun f => f)) 0 (.slice A1 e.key.user.length n1)) 3 (.slice A2 e.value.length n2)
    have y2 := blk_far (blk_far (p := ⟨w.heap.size, 0, none⟩) (hx2.blk (hx1.blk Z2.out (fun f => f)) (fun f => f)) (by simp) (.slice A1 e.key.user.length n1)) (p := ⟨w.heap.size, 3, none⟩) (by simp) (.slice A2 e.value.length n2)
    simp only [List.setIfInBounds_toArray, List.set_cons_zero, List.set_cons_succ] at y1
    obtain ⟨r0, r1, r2, r3, -⟩ := cells4 y1
    obtain ⟨s0, s1, s2, s3, sf⟩ := cells4 y2
    obtain ⟨t0, t1, t2, t3, -⟩ := cells4 (blk_set4 y2 (.slice A1 e.key.user.length n1) (u64V e.key.seq) (byteV e.key.kind) (.slice A2 e.value.length n2))
    have ho := out_set4 (g := w.heap.size + 1) (((((Hx.out.drew.ext hx1).ext hx2).setCell (p := ⟨w.heap.size, 0, none⟩) (by simp) (.slice A1 e.key.user.length n1))).setCell (p := ⟨w.heap.size, 3, none⟩) (by simp) (.slice A2 e.value.length n2)) (by simp) (.slice A1 e.key.user.length n1) (u64V e.key.seq) (byteV e.key.kind) (.slice A2 e.value.length n2)
    have hp := out_set4 (S := fun k => k = w.heap.size ∨ k = w.heap.size + 1) (g := w.heap.size + 1) (((Out.refl _ w2).setCell (p := ⟨w.heap.size, 0, none⟩) (by simp) (.slice A1 e.key.user.length n1)).setCell (p := ⟨w.heap.size, 3, none⟩) (by simp) (.slice A2 e.value.length n2)) (by simp) (.slice A1 e.key.user.length n1) (u64V e.key.seq) (byteV e.key.kind) (.slice A2 e.value.length n2)
    have h3 := hx1.size
    simp only [World.size_drew, World.size_alloc] at h3
    have o1 := (hb1.ext hx2).out hp (fun b _ hb => by simp at *; omega)
    have o2 := hb2.out hp (fun b _ hb => by simp at *; omega)
    clear hx1 hx2 hb1 hb2 y1 y2 hp j0 j1 j2 j3 jf k0 k1 k2 k3 kf m0 m1 m2 m3 mf
    go_wp2
    refine bodyPost_ret (v := .agg #[.slice A1 e.key.user.length n1, u64V e.key.seq, byteV e.key.kind, .slice A2 e.value.length n2]) (by simp [results, Try.results99, go_sem, t0, t1, t2, t3]) rfl ⟨_, _, rfl, ho, ?_, ?_⟩
    · exact o1.mono (fun b hb _ => by simp at *; omega) (.inl (by decide))
    · exact o2.mono (fun b hb _ => by omega) (.inl (by decide))

set_option maxRecDepth 100000 in
set_option maxHeartbeats 1000000 in
theorem merge_one (w : World) {F G : Nat → Prop} {u v : Value} (e : Ent) (hu : Bs w F u e.key.user) (hv : Bs w G v e.value) :
    Calls Try.prog 104 #[.agg #[u, u64V e.key.seq, byteV e.key.kind, v]] w (EntCopied w e) := by
  have hx : Ext w ((w.alloc (.cells #[u, u64V e.key.seq, byteV e.key.kind, v] 32)).alloc (.cells #[.slice none 0 0, .int .u64 0, .int .u8 0, .slice none 0 0] 32)) := ((Out.refl _ w).alloc _).alloc _
  have hu' := (hu.ext hx).drew
  have hv' := (hv.ext hx).drew
  have z1 := blk_alloc (blk_new w (.cells #[u, u64V e.key.seq, byteV e.key.kind, v] 32)) (.cells #[.slice none 0 0, .int .u64 0, .int .u8 0, .slice none 0 0] 32)
  have z2 := blk_new (w.alloc (.cells #[u, u64V e.key.seq, byteV e.key.kind, v] 32)) (.cells #[.slice none 0 0, .int .u64 0, .int .u8 0, .slice none 0 0] 32)
  obtain ⟨g0, g1, g2, g3, -⟩ := cells4 z1
  rw [World.size_alloc] at z2
  have Z1 := Lib.hid z1
  have Z2 := Lib.hid z2
  clear z1 z2
  have Hx := Lib.hid hx
  clear hx
  go_enter Try.func104, Try.ntmps104
  go_wp2
  go_region_with (first | (go_at_call 122; refine (bytes_clone _ hu').mono ?_; rintro x w1 ⟨x1, rfl, hx1, hb1⟩; obtain ⟨A1, n1, rfl, q1⟩ := hb1.form; clear q1; obtain ⟨j0, j1, j2, j3, jf⟩ := cells4 (hx1.blk Z1.out (fun f => f))) | (go_at_call 122; refine (bytes_clone _ (hv'.ext hx1)).mono ?_; rintro x w2 ⟨x2, rfl, hx2, hb2⟩; obtain ⟨A2, n2, rfl, q2⟩ := hb2.form; clear q2; obtain ⟨k0, k1, k2, k3, kf⟩ := cells4 (hx2.blk (hx1.blk Z1.out (fun f => f)) (fun f => f)); obtain ⟨m0, m1, m2, m3, mf⟩ := cells4 (hx2.blk (hx1.blk Z2.out (fun f => f)) (fun f => f))))
  all_goals
    have y1 := blk_set (blk_set (hx2.blk (hx1.blk Z1.out (fun f => f)) (fun f => f)) 0 (.slice A1 e.key.user.length n1)) 3 (.slice A2 e.value.length n2)
    have y2 := blk_far (blk_far (p := ⟨w.heap.size, 0, none⟩) (hx2.blk (hx1.blk Z2.out (fun f => f)) (fun f => f)) (by simp) (.slice A1 e.key.user.length n1)) (p := ⟨w.heap.size, 3, none⟩) (by simp) (.slice A2 e.value.length n2)
    simp only [List.setIfInBounds_toArray, List.set_cons_zero, List.set_cons_succ] at y1
    obtain ⟨r0, r1, r2, r3, -⟩ := cells4 y1
    obtain ⟨s0, s1, s2, s3, sf⟩ := cells4 y2
    obtain ⟨t0, t1, t2, t3, -⟩ := cells4 (blk_set4 y2 (.slice A1 e.key.user.length n1) (u64V e.key.seq) (byteV e.key.kind) (.slice A2 e.value.length n2))
    have ho := out_set4 (g := w.heap.size + 1) (((((Hx.out.drew.ext hx1).ext hx2).setCell (p := ⟨w.heap.size, 0, none⟩) (by simp) (.slice A1 e.key.user.length n1))).setCell (p := ⟨w.heap.size, 3, none⟩) (by simp) (.slice A2 e.value.length n2)) (by simp) (.slice A1 e.key.user.length n1) (u64V e.key.seq) (byteV e.key.kind) (.slice A2 e.value.length n2)
    have hp := out_set4 (S := fun k => k = w.heap.size ∨ k = w.heap.size + 1) (g := w.heap.size + 1) (((Out.refl _ w2).setCell (p := ⟨w.heap.size, 0, none⟩) (by simp) (.slice A1 e.key.user.length n1)).setCell (p := ⟨w.heap.size, 3, none⟩) (by simp) (.slice A2 e.value.length n2)) (by simp) (.slice A1 e.key.user.length n1) (u64V e.key.seq) (byteV e.key.kind) (.slice A2 e.value.length n2)
    have h3 := hx1.size
    simp only [World.size_drew, World.size_alloc] at h3
    have o1 := (hb1.ext hx2).out hp (fun b _ hb => by simp at *; omega)
    have o2 := hb2.out hp (fun b _ hb => by simp at *; omega)
    clear hx1 hx2 hb1 hb2 y1 y2 hp j0 j1 j2 j3 jf k0 k1 k2 k3 kf m0 m1 m2 m3 mf
    go_wp2
    refine bodyPost_ret (v := .agg #[.slice A1 e.key.user.length n1, u64V e.key.seq, byteV e.key.kind, .slice A2 e.value.length n2]) (by simp [results, Try.results104, go_sem, t0, t1, t2, t3]) rfl ⟨_, _, rfl, ho, ?_, ?_⟩
    · exact o1.mono (fun b hb _ => by simp at *; omega) (.inl (by decide))
    · exact o2.mono (fun b hb _ => by omega) (.inl (by decide))
end Go.Proofs.Yteaanagljmcidaa
