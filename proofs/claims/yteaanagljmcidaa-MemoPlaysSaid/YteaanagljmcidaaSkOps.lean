/- skip: New, Len, Size, at, Before. -/
import Derived.Test.YteaanagljmcidaaSkPath
import Derived.Test.YteaanagljmcidaaTwin
import Derived.Laws.MakeOwn
namespace Go.Proofs.Yteaanagljmcidaa
open Go.RowKit

attribute [local go_sem ↓] Go.wp_at_zero Go.wp_at_succ

def zeroE : Ent := ⟨⟨[], 0, 0⟩, []⟩
/-- The first tower, at block T. -/
def tw0 (T : Nat) : Tw := ⟨zeroE, T, [0, 0, 0, 0, 0, 0, 0, 0]⟩

theorem good_new (T : Nat) : Good [tw0 T] [] where
  head := rfl
  pos := by simp
  mem := fun i => by simp; omega
  nodup := List.nodup_nil
  tall := fun i h => by simp at h
  sorted := List.Pairwise.nil
  link := fun r hr => ⟨by
    have : r = 0 ∨ r = 1 ∨ r = 2 ∨ r = 3 ∨ r = 4 ∨ r = 5 ∨ r = 6 ∨ r = 7 := by omega
    rcases this with rfl | rfl | rfl | rfl | rfl | rfl | rfl | rfl <;> rfl, fun xs a ys h => by simp [chain] at h⟩

set_option maxRecDepth 100000 in
set_option maxHeartbeats 1000000 in
theorem sk_new (w : World) : Calls Try.prog 26 #[] w fun e w' => ∃ L T v, e = .returned (.pointer (some ⟨L, 0, none⟩)) ∧ Ext w w' ∧ Sk w' (fun b => w.heap.size ≤ b) L v [tw0 T] 0 := by
  have hmk : ∀ w, (Instr.makeSlice 54 (.int .i64 8) (.int .i64 8)).run Try.prog w = .ok (.slice (some ⟨w.heap.size, 0, none⟩) 8 8) (w.alloc (.cells #[.int .i64 0, .int .i64 0, .int .i64 0, .int .i64 0, .int .i64 0, .int .i64 0, .int .i64 0, .int .i64 0] 3)) := fun _ => by kernel_rfl
  go_enter Try.func26, Try.ntmps26
  go_wp2
  go_ret
  refine ⟨w.heap.size + 1 + 1, w.heap.size, .slice (some ⟨w.heap.size + 1, 0, none⟩) 1 1, rfl, (((Out.refl _ w).alloc _).alloc _).alloc _, ?_⟩
  have b0 := blk_alloc (blk_alloc (blk_new w (.cells #[.int .i64 0, .int .i64 0, .int .i64 0, .int .i64 0, .int .i64 0, .int .i64 0, .int .i64 0, .int .i64 0] 3)) (.cells #[.slice none 0 0, .int .u64 0, .int .u8 0, .slice none 0 0, .slice (some ⟨w.heap.size, 0, none⟩) 8 8] 143)) (.cells #[.slice (some ⟨w.heap.size + 1, 0, none⟩) 1 1, .int .i64 0] 146)
  have b1 := blk_alloc (blk_at (w := w.alloc (.cells #[.int .i64 0, .int .i64 0, .int .i64 0, .int .i64 0, .int .i64 0, .int .i64 0, .int .i64 0, .int .i64 0] 3)) (o := .cells #[.slice none 0 0, .int .u64 0, .int .u8 0, .slice none 0 0, .slice (some ⟨w.heap.size, 0, none⟩) 8 8] 143) (n := w.heap.size + 1) (by simp)) (.cells #[.slice (some ⟨w.heap.size + 1, 0, none⟩) 1 1, .int .i64 0] 146)
  have b2 := blk_at (w := (w.alloc (.cells #[.int .i64 0, .int .i64 0, .int .i64 0, .int .i64 0, .int .i64 0, .int .i64 0, .int .i64 0, .int .i64 0] 3)).alloc (.cells #[.slice none 0 0, .int .u64 0, .int .u8 0, .slice none 0 0, .slice (some ⟨w.heap.size, 0, none⟩) 8 8] 143)) (o := .cells #[.slice (some ⟨w.heap.size + 1, 0, none⟩) 1 1, .int .i64 0] 146) (n := w.heap.size + 1 + 1) (by simp)
  refine ⟨b2, ?_, by omega, fun k hk => ?_, fun t ht => ?_, by simp, by simp, by simp⟩
  · refine ⟨[.slice none 0 0, .int .u64 0, .int .u8 0, .slice none 0 0, .slice (some ⟨w.heap.size, 0, none⟩) 8 8], ⟨rfl, .inr ⟨w.heap.size + 1, 1, _, rfl, by omega, b1, by simp, by simp [maxLen], rfl, rfl⟩⟩, fun i hi => ?_⟩
    have : i = 0 := by simpa using hi
    subst this
    exact ⟨[.slice none 0 0, .int .u64 0, .int .u8 0, .slice none 0 0, .slice (some ⟨w.heap.size, 0, none⟩) 8 8], fun j _ => by simp, .slice none 0 0, .slice none 0 0, rfl, Sl.nil _ _ _, Sl.nil _ _ _⟩
  · have : k = w.heap.size + 1 := by simp [Value.ownBlock] at hk; omega
    subst this
    exact ⟨by omega, by simp [Priv, tw0]⟩
  · have : t = tw0 w.heap.size := by simpa using ht
    subst this
    exact ⟨by simp [tw0], by simp [tw0]; omega, b0⟩

set_option maxHeartbeats 400000 in
theorem sk_len (w : World) {Foot : Nat → Prop} {L : Nat} {v : Value} {ts : List Tw} {size : Int} (h : Sk w Foot L v ts size) :
    Calls Try.prog 30 #[.pointer (some ⟨L, 0, none⟩)] w fun e w' => e = .returned (.int .i64 ((ts.length : Int) - 1)) ∧ w = w' := by
  obtain ⟨R, cap, rfl⟩ := h.arena
  obtain ⟨l0, l1, -⟩ := h.cells
  have hsm := h.small
  clear h
  go_enter Try.func30, Try.ntmps30
  go_wp2
  go_ret
  exact ⟨rfl, rfl⟩

set_option maxHeartbeats 400000 in
theorem sk_size (w : World) {Foot : Nat → Prop} {L : Nat} {v : Value} {ts : List Tw} {size : Int} (h : Sk w Foot L v ts size) :
    Calls Try.prog 34 #[.pointer (some ⟨L, 0, none⟩)] w fun e w' => e = .returned (.int .i64 size) ∧ w = w' := by
  obtain ⟨R, cap, rfl⟩ := h.arena
  obtain ⟨l0, l1, -⟩ := h.cells
  clear h
  go_enter Try.func34, Try.ntmps34
  go_wp2
  go_ret
  exact ⟨rfl, rfl⟩

/-- An entry of its own comes back, or none. -/
def Told (w : World) (o : Option Ent) (x : Ending) (w' : World) : Prop :=
  ∃ u v, x = .returned (.tuple #[.agg #[u, u64V (o.getD zeroE).key.seq, byteV (o.getD zeroE).key.kind, v], .bool o.isSome]) ∧ Ext w w' ∧ Bs w' (fun b => w.heap.size ≤ b) u (o.getD zeroE).key.user ∧ Bs w' (fun b => w.heap.size ≤ b) v (o.getD zeroE).value

theorem told_none (w w' : World) (h : Ext w w') : Told w none (.returned (.tuple #[.agg #[.slice none 0 0, .int .u64 0, .int .u8 0, .slice none 0 0], .bool false])) w' :=
  ⟨_, _, rfl, h, Sl.nil _ _ _, Sl.nil _ _ _⟩

set_option maxRecDepth 100000 in
set_option maxHeartbeats 1000000 in
theorem sk_at (w : World) {Foot : Nat → Prop} {L : Nat} {v : Value} {ts : List Tw} {size : Int} (h : Sk w Foot L v ts size) (n : Nat) (hn : n < ts.length) :
    Calls Try.prog 101 #[.pointer (some ⟨L, 0, none⟩), .int .i64 n] w (Told w (if n = 0 then none else some ts[n].e)) := by
  obtain ⟨R, cap, rfl⟩ := h.arena
  have hsm := h.small
  by_cases h0 : n = 0
  · subst h0
    clear h
    rw [if_pos rfl]
    go_enter Try.func101, Try.ntmps101
    go_wp2
    refine bodyPost_ret (v := .tuple #[.agg #[.slice none 0 0, .int .u64 0, .int .u8 0, .slice none 0 0], .bool false]) (by simp [results, Try.results101, go_sem]) rfl (told_none _ _ ((Out.refl _ w).alloc _))
  · have hx := Ext.alloc1 w (.cells #[.slice none 0 0, .int .u64 0, .int .u8 0, .slice none 0 0] 32)
    have h1 := h.ext hx
    obtain ⟨l0, l1, -⟩ := h1.cells
    obtain ⟨x, y, a0, a1, a2, a3, a4, hx', hy'⟩ := h1.tower n hn
    have Z := Lib.hid (blk_new w (.cells #[.slice none 0 0, .int .u64 0, .int .u8 0, .slice none 0 0] 32))
    have Hx := Lib.hid hx
    have hb : ((n : Int) == 0) = false := by simp; omega
    rw [if_neg h0]
    clear h h1 h0 hx
    go_enter Try.func101, Try.ntmps101
    go_wp2_with (go_at_call 99; refine (skip_copyOf _ ts[n].e hx' hy').mono ?_; rintro e w1 ⟨u, v, rfl, hx1, hb1, hb2⟩; obtain ⟨A1, k1, m1, rfl⟩ := hb1.form0; obtain ⟨A2, k2, m2, rfl⟩ := hb2.form0; obtain ⟨z0, z1, z2, z3, zf⟩ := cells4 (hx1.blk Z.out (fun f => f)))
    obtain ⟨r0, r1, r2, r3, -⟩ := cells4 (blk_set4 (hx1.blk Z.out (fun f => f)) (.slice A1 k1 m1) (u64V ts[n].e.key.seq) (byteV ts[n].e.key.kind) (.slice A2 k2 m2))
    have h3 := hx1.size
    simp only [World.size_alloc] at h3
    have ho := out_set4 (S := fun k => k = w.heap.size) (Out.refl _ w1) (g := w.heap.size) (fun _ => rfl) (.slice A1 k1 m1) (u64V ts[n].e.key.seq) (byteV ts[n].e.key.kind) (.slice A2 k2 m2)
    have o1 := hb1.out ho (fun b _ hb => by simp at *; omega)
    have o2 := hb2.out ho (fun b _ hb => by simp at *; omega)
    refine bodyPost_ret (v := .tuple #[.agg #[.slice A1 k1 m1, u64V ts[n].e.key.seq, byteV ts[n].e.key.kind, .slice A2 k2 m2], .bool true]) (by simp [results, Try.results101, go_sem, r0, r1, r2, r3]) rfl ⟨_, _, rfl, ?_, ?_, ?_⟩
    · exact out_set4 (Hx.out.ext hx1) (by simp) _ _ _ _
    · exact o1.mono (fun b hb _ => by simp at *; omega) (.inl (by decide))
    · exact o2.mono (fun b hb _ => by simp at *; omega) (.inl (by decide))
end Go.Proofs.Yteaanagljmcidaa
