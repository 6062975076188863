/- skip: ahead, path. -/
import Derived.Test.YteaanagljmcidaaSkPure
import Derived.BigQuiet
import Derived.Deep.QuietTactic
namespace Go.Proofs.Yteaanagljmcidaa
open Go.RowKit

attribute [local go_sem ↓] Go.wp_at_zero Go.wp_at_succ

theorem nxt_get {ts : List Tw} {r i : Nat} (hi : i < ts.length) (hr : r < ts[i].nx.length) : nxt ts r i = ts[i].nx[r] := by simp [nxt, hi, hr]
theorem hgt_get {ts : List Tw} {i : Nat} (hi : i < ts.length) : hgt ts i = ts[i].nx.length := by simp [hgt, hi]
theorem keyAt_get {ts : List Tw} {i : Nat} (hi : i < ts.length) : keyAt ts i = ts[i].e.key := by simp [keyAt, hi]

set_option maxRecDepth 100000 in
set_option maxHeartbeats 1000000 in
theorem sk_ahead (w : World) {Foot F : Nat → Prop} {L : Nat} {v : Value} {ts : List Tw} {size : Int} (h : Sk w Foot L v ts size) (i r : Nat) (hi : i < ts.length) (hr : r < hgt ts i) (hn : nxt ts r i < ts.length)
    {u : Value} (k : Key) (hu : Bs w F u k.user) :
    Calls Try.prog 148 #[.pointer (some ⟨L, 0, none⟩), .int .i64 i, .int .i64 r, .agg #[u, u64V k.seq, byteV k.kind]] w fun e w' => e = .returned (.bool (decide (nxt ts r i ≠ 0 ∧ kcmp (keyAt ts (nxt ts r i)) k < 0))) ∧ Ext w w' := by
  rw [hgt_get hi] at hr
  obtain ⟨R, cap, rfl⟩ := h.arena
  have hsm := h.small
  obtain ⟨U, N, c, rfl⟩ := hu.form0
  have h1 := h.ext (Ext.alloc1 w (.cells #[.slice U N c, u64V k.seq, byteV k.kind] 30))
  have hu1 := hu.ext (Ext.alloc1 w (.cells #[.slice U N c, u64V k.seq, byteV k.kind] 30))
  obtain ⟨z0, z1, z2, -⟩ := cells3 (blk_new w (.cells #[.slice U N c, u64V k.seq, byteV k.kind] 30))
  obtain ⟨l0, l1, -⟩ := h1.cells
  obtain ⟨x, y, a0, a1, a2, a3, a4, hx, hy⟩ := h1.tower i hi
  have n0 := h1.nxCell i hi r hr
  rw [← nxt_get hi hr] at n0
  generalize nxt ts r i = n at *
  obtain ⟨x', y', b0, b1, b2, b3, b4, hx', hy'⟩ := h1.tower n hn
  rw [keyAt_get hn]
  by_cases h0 : n = 0
  · have e : decide (n ≠ 0 ∧ kcmp ts[n].e.key k < 0) = false := by simp [h0]
    have hb : ((n : Int) != 0) = false := by simp [h0]
    rw [e]
    clear e h h1 h0 hx hy hx' hy' b0 b1 b2 b3 b4 a0 a1 a2 a3 hu hu1
    go_enter Try.func148, Try.ntmps148
    go_wp2
    go_quiet (fail)
    go_wp2
    go_ret
    exact ⟨rfl, ((Out.refl _ w).alloc _).drewN _⟩
  · have hb : ((n : Int) != 0) = true := by simp; omega
    have e : decide (n ≠ 0 ∧ kcmp ts[n].e.key k < 0) = decide (kcmp ts[n].e.key k < 0) := by simp [h0]
    rw [e]
    clear e h h1 h0 hx hy hy' b4 b3 a0 a1 a2 a3 hu
    go_enter Try.func148, Try.ntmps148
    go_wp2
    go_region_held3 (fun w' => w'.cell? ⟨L, 0, none⟩ = some (.slice (some ⟨R, 0, none⟩) ts.length cap) ∧ w'.cell? ⟨R, n * 5, none⟩ = some x' ∧ w'.cell? ⟨R, n * 5 + 1, none⟩ = some (u64V ts[n].e.key.seq) ∧ w'.cell? ⟨R, n * 5 + 2, none⟩ = some (byteV ts[n].e.key.kind) ∧ w'.cell? ⟨w.heap.size, 0, none⟩ = some (.slice U N c) ∧ w'.cell? ⟨w.heap.size, 1, none⟩ = some (u64V k.seq) ∧ w'.cell? ⟨w.heap.size, 2, none⟩ = some (byteV k.kind)) (first | go_keep | (exact ⟨hx1.cell l0 (fun f => f), hx1.cell b0 (fun f => f), hx1.cell b1 (fun f => f), hx1.cell b2 (fun f => f), hx1.cell z0 (fun f => f), hx1.cell z1 (fun f => f), hx1.cell z2 (fun f => f)⟩))
      (first | (go_at_call 98; refine (ikey_compare _ ts[n].e.key k hx'.drew hu1.drew).mono ?_; rintro x w1 ⟨rfl, hx1⟩))
    go_wp2
    go_ret
    exact ⟨rfl, ((Out.refl _ w).alloc _).drew.ext hx1⟩
end Go.Proofs.Yteaanagljmcidaa
