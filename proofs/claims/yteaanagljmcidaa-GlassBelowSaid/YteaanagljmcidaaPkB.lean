/- An entry of its own: Twin, copyOf, one. · Lists of entries: copied, cut. -/
import Derived.Test.YteaanagljmcidaaPkA
namespace Go.Proofs.Yteaanagljmcidaa
open Go.RowKit

attribute [local go_sem ↓] Go.wp_at_zero Go.wp_at_succ

/-- An entry of its own comes back. -/
def EntCopied (w : World) (e : Ent) (x : Ending) (w' : World) : Prop :=
  ∃ u v, x = .returned (.agg #[u, u64V e.key.seq, byteV e.key.kind, v]) ∧ Ext w w' ∧ Bs w' (fun b => w.heap.size ≤ b) u e.key.user ∧ Bs w' (fun b => w.heap.size ≤ b) v e.value

set_option maxRecDepth 100000 in
set_option maxHeartbeats 1000000 in
theorem r3_twin (w : World) {F G : Nat → Prop} {u v : Value} (e : Ent) (hu : Bs w F u e.key.user) (hv : Bs w G v e.value) :
    Calls Try.prog 39 #[.agg #[u, u64V e.key.seq, byteV e.key.kind, v]] w (EntCopied w e) := by
  have hx : Ext w ((w.alloc (.cells #[u, u64V e.key.seq, byteV e.key.kind, v] 32)).alloc (.cells #[.slice none 0 0, .int .u64 0, .int .u8 0, .slice none 0 0] 32)) := ((Out.refl _ w).alloc _).alloc _
  have hu' := (hu.ext hx).drew
  have hv' := (hv.ext hx).drew
  have z1 := blk_alloc (blk_new w (.cells #[u, u64V e.key.seq, byteV e.key.kind, v] 32)) (.cells #[.slice none 0 0, .int .u64 0, .int .u8 0, .slice none 0 0] 32)
  have z2 := blk_new (w.alloc (.cells #[u, u64V e.key.seq, byteV e.key.kind, v] 32)) (.cells #[.slice none 0 0, .int .u64 0, .int .u8 0, .slice none 0 0] 32)
  obtain ⟨g0, g1, g2, g3, -⟩ := cells4 z1
  rw [World.size_alloc] at z2
  have Z2 := Lib.hid z2
  clear z1 z2
  have Hx := Lib.hid hx
  clear hx
  go_enter Try.func39, Try.ntmps39
  go_wp2
  go_region_held3 (fun w' => w'.cell? ⟨w.heap.size, 0, none⟩ = some u ∧ w'.cell? ⟨w.heap.size, 1, none⟩ = some (u64V e.key.seq) ∧ w'.cell? ⟨w.heap.size, 2, none⟩ = some (byteV e.key.kind) ∧ w'.cell? ⟨w.heap.size, 3, none⟩ = some v) (first | go_keep | (refine ⟨?_, ?_, ?_, ?_⟩ <;> exact hx1.cell (by assumption) (fun f => f)) | (refine ⟨?_, ?_, ?_, ?_⟩ <;> exact hx2.cell (hx1.cell (by assumption) (fun f => f)) (fun f => f)))
    (first | (go_at_call 80; refine (r1_copy _ hu').mono ?_; rintro x w1 ⟨x1, rfl, hx1, hb1⟩; obtain ⟨A1, n1, rfl, q1⟩ := hb1.form; clear q1) | (go_at_call 80; refine (r1_copy _ (hv'.ext hx1)).mono ?_; rintro x w2 ⟨x2, rfl, hx2, hb2⟩; obtain ⟨A2, n2, rfl, q2⟩ := hb2.form; clear q2; obtain ⟨k0, k1, k2, k3, kf⟩ := cells4 (hx2.blk (hx1.blk Z2.out (fun f => f)) (fun f => f))))
  go_wp2
  obtain ⟨r0, r1, r2, r3, -⟩ := cells4 (blk_set4 (hx2.blk (hx1.blk Z2.out (fun f => f)) (fun f => f)) (.slice A1 e.key.user.length n1) (u64V e.key.seq) (byteV e.key.kind) (.slice A2 e.value.length n2))
  refine bodyPost_ret (v := .agg #[.slice A1 e.key.user.length n1, u64V e.key.seq, byteV e.key.kind, .slice A2 e.value.length n2]) (by simp [results, Try.results39, go_sem, r0, r1, r2, r3]) rfl ⟨_, _, rfl, ?_, ?_, ?_⟩
  · exact out_set4 ((Hx.out.drew.ext hx1).ext hx2) (by simp) _ _ _ _
  · have h3 := hx1.size
    simp only [World.size_drew, World.size_alloc] at h3
    refine ((hb1.ext hx2).out (out_set4 (S := fun k => k = w.heap.size + 1) (Out.refl _ _) (fun _ => rfl) _ _ _ _) (fun b _ hb => ?_)).mono (fun b hb _ => ?_) (.inl (by decide)) <;> simp at * <;> omega
  · have h3 := hx1.size
    simp only [World.size_drew, World.size_alloc] at h3
    refine (hb2.out (out_set4 (S := fun k => k = w.heap.size + 1) (Out.refl _ _) (fun _ => rfl) _ _ _ _) (fun b _ hb => ?_)).mono (fun b hb _ => ?_) (.inl (by decide)) <;> simp at * <;> omega

set_option maxRecDepth 100000 in
set_option maxHeartbeats 1000000 in
theorem skip_copyOf (w : World) {F G : Nat → Prop} {u v : Value} (e : Ent) (hu : Bs w F u e.key.user) (hv : Bs w G v e.value) :
    Calls Try.prog 99 #[.agg #[u, u64V e.key.seq, byteV e.key.kind, v]] w (EntCopied w e) := by
  have hx : Ext w ((w.alloc (.cells #[u, u64V e.key.seq, byteV e.key.kind, v] 32)).alloc (.cells #[.slice none 0 0, .int .u64 0, .int .u8 0, .slice none 0 0] 32)) := ((Out.refl _ w).alloc _).alloc _
  have hu' := (hu.ext hx).drew
  have hv' := (hv.ext hx).drew
  have z1 := blk_alloc (blk_new w (.cells #[u, u64V e.key.seq, byteV e.key.kind, v] 32)) (.cells #[.slice none 0 0, .int .u64 0, .int .u8 0, .slice none 0 0] 32)
  have z2 := blk_new (w.alloc (.cells #[u, u64V e.key.seq, byteV e.key.kind, v] 32)) (.cells #[.slice none 0 0, .int .u64 0, .int .u8 0, .slice none 0 0] 32)
  obtain ⟨g0, g1, g2, g3, -⟩ := cells4 z1
  rw [World.size_alloc] at z2
  have Z1 := Lib.hid z1
  have Z2 := Lib.hid z2
  clear z1 z2
  have Hx := Lib.hid hx
  clear hx
  go_enter Try.func99, Try.ntmps99
  go_wp2
  go_region_with (first | (go_at_call 122; refine (bytes_clone _ hu').mono ?_; rintro x w1 ⟨x1, rfl, hx1, hb1⟩; obtain ⟨A1, n1, rfl, q1⟩ := hb1.form; clear q1; obtain ⟨j0, j1, j2, j3, jf⟩ := cells4 (hx1.blk Z1.out (fun f => f))) | (go_at_call 122; refine (bytes_clone _ (hv'.ext hx1)).mono ?_; rintro x w2 ⟨x2, rfl, hx2, hb2⟩; obtain ⟨A2, n2, rfl, q2⟩ := hb2.form; clear q2; obtain ⟨k0, k1, k2, k3, kf⟩ := cells4 (hx2.blk (hx1.blk Z1.out (fun f => f)) (fun f => f)); obtain ⟨m0, m1, m2, m3, mf⟩ := cells4 (hx2.blk (hx1.blk Z2.out (fun f => f)) (fun f => f))))
  all_goals
    have y1 := blk_set (blk_set (hx2.blk (hx1.blk Z1.out (fun f => f)) (fun f => f)) 0 (.slice A1 e.key.user.length n1)) 3 (.slice A2 e.value.length n2)
    have y2 := blk_far (blk_far (p := ⟨w.heap.size, 0, none⟩) (hx2.blk (hx1.blk Z2.out (fun f => f)) (fun f => f)) (by simp) (.slice A1 e.key.user.length n1)) (p := ⟨w.heap.size, 3, none⟩) (by simp) (.slice A2 e.value.length n2)
    simp only [List.setIfInBounds_toArray, List.set_cons_zero, List.set_cons_succ] at y1
    obtain ⟨r0, r1, r2, r3, -⟩ := cells4 y1
    obtain ⟨s0, s1, s2, s3, sf⟩ := cells4 y2
    obtain ⟨t0, t1, t2, t3, -⟩ := cells4 (blk_set4 y2 (.slice A1 e.key.user.length n1) (u64V e.key.seq) (byteV e.key.kind) (.slice A2 e.value.length n2))
    have ho := out_set4 (g := w.heap.size + 1) (((((Hx.out.drew.ext hx1).ext hx2).setCell (p := ⟨w.heap.size, 0, none⟩) (by simp) (.slice A1 e.key.user.length n1))).setCell (p := ⟨w.heap.size, 3, none⟩) (by simp) (.slice A2 e.value.length n2)) (by simp) (.slice A1 e.key.user.length n1) (u64V e.key.seq) (byteV e.key.kind) (.slice A2 e.value.length n2)
    have hp := out_set4 (S := fun k => k = w.heap.size ∨ k = w.heap.size + 1) (g := w.heap.size + 1) (((Out.refl _ w2).setCell (p := ⟨w.heap.size, 0, none⟩) (by simp) (.slice A1 e.key.user.length n1)).setCell (p := ⟨w.heap.size, 3, none⟩) (by simp) (.slice A2 e.value.length n2)) (by simp) (.slice A1 e.key.user.length n1) (u64V e.key.seq) (byteV e.key.kind) (.slice A2 e.value.length n2)
    have h3 := hx1.size
    simp only [World.size_drew, World.size_alloc] at h3
    have o1 := (hb1.ext hx2).out hp (fun b _ hb => by simp at *; omega)
    have o2 := hb2.out hp (fun b _ hb => by simp at *; omega)
    clear hx1 hx2 hb1 hb2 y1 y2 hp j0 j1 j2 j3 jf k0 k1 k2 k3 kf m0 m1 m2 m3 mf
    go_wp2
    refine bodyPost_ret (v := .agg #[.slice A1 e.key.user.length n1, u64V e.key.seq, byteV e.key.kind, .slice A2 e.value.length n2]) (by simp [results, Try.results99, go_sem, t0, t1, t2, t3]) rfl ⟨_, _, rfl, ho, ?_, ?_⟩
    · exact o1.mono (fun b hb _ => by simp at *; omega) (.inl (by decide))
    · exact o2.mono (fun b hb _ => by omega) (.inl (by decide))

set_option maxRecDepth 100000 in
set_option maxHeartbeats 1000000 in
theorem merge_one (w : World) {F G : Nat → Prop} {u v : Value} (e : Ent) (hu : Bs w F u e.key.user) (hv : Bs w G v e.value) :
    Calls Try.prog 104 #[.agg #[u, u64V e.key.seq, byteV e.key.kind, v]] w (EntCopied w e) := by
  have hx : Ext w ((w.alloc (.cells #[u, u64V e.key.seq, byteV e.key.kind, v] 32)).alloc (.cells #[.slice none 0 0, .int .u64 0, .int .u8 0, .slice none 0 0] 32)) := ((Out.refl _ w).alloc _).alloc _
  have hu' := (hu.ext hx).drew
  have hv' := (hv.ext hx).drew
  have z1 := blk_alloc (blk_new w (.cells #[u, u64V e.key.seq, byteV e.key.kind, v] 32)) (.cells #[.slice none 0 0, .int .u64 0, .int .u8 0, .slice none 0 0] 32)
  have z2 := blk_new (w.alloc (.cells #[u, u64V e.key.seq, byteV e.key.kind, v] 32)) (.cells #[.slice none 0 0, .int .u64 0, .int .u8 0, .slice none 0 0] 32)
  obtain ⟨g0, g1, g2, g3, -⟩ := cells4 z1
  rw [World.size_alloc] at z2
  have Z1 := Lib.hid z1
  have Z2 := Lib.hid z2
  clear z1 z2
  have Hx := Lib.hid hx
  clear hx
  go_enter Try.func104, Try.ntmps104
  go_wp2
  go_region_with (first | (go_at_call 122; refine (bytes_clone _ hu').mono ?_; rintro x w1 ⟨x1, rfl, hx1, hb1⟩; obtain ⟨A1, n1, rfl, q1⟩ := hb1.form; clear q1; obtain ⟨j0, j1, j2, j3, jf⟩ := cells4 (hx1.blk Z1.out (fun f => f))) | (go_at_call 122; refine (bytes_clone _ (hv'.ext hx1)).mono ?_; rintro x w2 ⟨x2, rfl, hx2, hb2⟩; obtain ⟨A2, n2, rfl, q2⟩ := hb2.form; clear q2; obtain ⟨k0, k1, k2, k3, kf⟩ := cells4 (hx2.blk (hx1.blk Z1.out (fun f => f)) (fun f => f)); obtain ⟨m0, m1, m2, m3, mf⟩ := cells4 (hx2.blk (hx1.blk Z2.out (fun f => f)) (fun f => f))))
  all_goals
    have y1 := blk_set (blk_set (hx2.blk (hx1.blk Z1.out (fun f => f)) (fun f => f)) 0 (.slice A1 e.key.user.length n1)) 3 (.slice A2 e.value.length n2)
    have y2 := blk_far (blk_far (p := ⟨w.heap.size, 0, none⟩) (hx2.blk (hx1.blk Z2.out (fun f => f)) (fun f => f)) (by simp) (.slice A1 e.key.user.length n1)) (p := ⟨w.heap.size, 3, none⟩) (by simp) (.slice A2 e.value.length n2)
    simp only [List.setIfInBounds_toArray, List.set_cons_zero, List.set_cons_succ] at y1
    obtain ⟨r0, r1, r2, r3, -⟩ := cells4 y1
    obtain ⟨s0, s1, s2, s3, sf⟩ := cells4 y2
    obtain ⟨t0, t1, t2, t3, -⟩ := cells4 (blk_set4 y2 (.slice A1 e.key.user.length n1) (u64V e.key.seq) (byteV e.key.kind) (.slice A2 e.value.length n2))
    have ho := out_set4 (g := w.heap.size + 1) (((((Hx.out.drew.ext hx1).ext hx2).setCell (p := ⟨w.heap.size, 0, none⟩) (by simp) (.slice A1 e.key.user.length n1))).setCell (p := ⟨w.heap.size, 3, none⟩) (by simp) (.slice A2 e.value.length n2)) (by simp) (.slice A1 e.key.user.length n1) (u64V e.key.seq) (byteV e.key.kind) (.slice A2 e.value.length n2)
    have hp := out_set4 (S := fun k => k = w.heap.size ∨ k = w.heap.size + 1) (g := w.heap.size + 1) (((Out.refl _ w2).setCell (p := ⟨w.heap.size, 0, none⟩) (by simp) (.slice A1 e.key.user.length n1)).setCell (p := ⟨w.heap.size, 3, none⟩) (by simp) (.slice A2 e.value.length n2)) (by simp) (.slice A1 e.key.user.length n1) (u64V e.key.seq) (byteV e.key.kind) (.slice A2 e.value.length n2)
    have h3 := hx1.size
    simp only [World.size_drew, World.size_alloc] at h3
    have o1 := (hb1.ext hx2).out hp (fun b _ hb => by simp at *; omega)
    have o2 := hb2.out hp (fun b _ hb => by simp at *; omega)
    clear hx1 hx2 hb1 hb2 y1 y2 hp j0 j1 j2 j3 jf k0 k1 k2 k3 kf m0 m1 m2 m3 mf
    go_wp2
    refine bodyPost_ret (v := .agg #[.slice A1 e.key.user.length n1, u64V e.key.seq, byteV e.key.kind, .slice A2 e.value.length n2]) (by simp [results, Try.results104, go_sem, t0, t1, t2, t3]) rfl ⟨_, _, rfl, ho, ?_, ?_⟩
    · exact o1.mono (fun b hb _ => by simp at *; omega) (.inl (by decide))
    · exact o2.mono (fun b hb _ => by omega) (.inl (by decide))
end Go.Proofs.Yteaanagljmcidaa
namespace Go.Proofs.Yteaanagljmcidaa
open Go.RowKit

attribute [local go_sem ↓] Go.wp_at_zero Go.wp_at_succ

theorem fits32 : Fits Try.prog 43 32 entC.size 64 := fits_of Try.underlying43 (by decide) (by kernel_rfl : (Try.prog.info? 32).map (fun i => (i.zero, i.size, i.bytes)) = some (some (.agg #[.slice none 0 0, .int .u64 0, .int .u8 0, .slice none 0 0]), 4, 64)) rfl

/-- A list of its own comes back. -/
def Listed (w : World) (l : List Ent) (x : Ending) (w' : World) : Prop := ∃ v, x = .returned v ∧ Ext w w' ∧ Sl entC w' (fun b => w.heap.size ≤ b) v l

theorem take_succ_get {α : Type} {l : List α} {k : Nat} (h : k < l.length) : l.take (k + 1) = l.take k ++ [l[k]] := by
  rw [List.take_succ_eq_append_getElem h]

set_option maxRecDepth 100000 in
set_option maxHeartbeats 1000000 in
theorem r3_twins (w : World) {F : Nat → Prop} {x : Value} (l : List Ent) (hx : Sl entC w F x l) (hl : l.length < 1000000000000) :
    Calls Try.prog 38 #[x] w (Listed w l) := by
  obtain ⟨A, cap, rfl, h1, h2, h3, h4⟩ := hx.form
  have Hx := Lib.hid hx
  clear h1 h2 h3 h4 hx
  go_enter Try.func38, Try.ntmps38
  go_wp2
  go_loopw [3, 8] (fun o i wr => ∃ k : Nat, k ≤ l.length ∧ i = .int .i64 k ∧ Own entC 32 wr w.heap.size (fun b => w.heap.size ≤ b) o (l.take k) ∧ Ext w wr) (fun _ i _ => l.length - (intOf i).toNat)
  case atStart => exact ⟨0, Nat.zero_le _, rfl, Own.nil _ _ _ _ _, Out.refl _ w⟩
  case round =>
    obtain ⟨k, hk, rfl, hown, hext⟩ := hrel
    by_cases hlt : k < l.length
    · obtain ⟨b1, o1, u1, v1, rfl, -, c0, c1, c2, c3, hu, hv⟩ := (Hx.out.ext hext).ent k hlt
      obtain ⟨U, n1, rfl, -⟩ := hu.form
      obtain ⟨V, n2, rfl, -⟩ := hv.form
      have hsz := hext.size
      have hu' := hu.alloc (.cells #[.slice U l[k].key.user.length n1, u64V l[k].key.seq, byteV l[k].key.kind, .slice V l[k].value.length n2] 32)
      have hv' := hv.alloc (.cells #[.slice U l[k].key.user.length n1, u64V l[k].key.seq, byteV l[k].key.kind, .slice V l[k].value.length n2] 32)
      have hown' := hown.ext (Ext.alloc1 wr (.cells #[.slice U l[k].key.user.length n1, u64V l[k].key.seq, byteV l[k].key.kind, .slice V l[k].value.length n2] 32))
      have Lt := Lib.hid hown'.lt
      have Sz := Lib.hid (le_alloc hsz (.cells #[.slice U l[k].key.user.length n1, u64V l[k].key.seq, byteV l[k].key.kind, .slice V l[k].value.length n2] 32))
      have Hext := Lib.hid hext
      clear hext
      go_wp2_with (first | (go_at_call 39; refine (r3_twin _ l[k] hu' hv').mono ?_; rintro x w1 ⟨x1, x2, rfl, hx1, hb1, hb2⟩) | (at_builtin; refine wpList_append_one rfl (.tmp 12) (.tmp 15) 43 rfl fits32 ((hown'.ext hx1).ext (Ext.alloc1 _ _)) rfl (le_alloc (Nat.le_trans Sz.out hx1.size) _) (blk_new _ _) rfl l[k] (ent_rep (hb1.alloc _) (hb2.alloc _) (fun b hb _ => fresh_ok Sz.out Lt.out hb) (fun b hb _ => fresh_ok Sz.out Lt.out hb)) (room_take hl (by decide)) (by decide) ?_; intro v' w' g1 g2 g3))
      go_roundw
      case rel => exact ⟨k + 1, by omega, by go_num, by rw [take_succ_get hlt]; exact g1, Out.own (((Hext.out.alloc _).ext hx1).alloc _) g2 (fun k h => (Lt.out k h).1) (Nat.le_refl _)⟩
      case measure => simp [intOf]; omega
    · go_wp2
      go_ret
      have hkl : l.take k = l := List.take_of_length_le (by omega)
      rw [hkl] at hown
      exact ⟨_, rfl, hext, hown.sl (by decide) (by show _ ≤ 140737488355328; omega) (fun b hb _ => hb) (fun b hb _ => hb)⟩
end Go.Proofs.Yteaanagljmcidaa
