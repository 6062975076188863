/- skip: Insert, the ways that insert nothing. -/
import Derived.Test.YteaanagljmcidaaSkIns
namespace Go.Proofs.Yteaanagljmcidaa
open Go.RowKit

attribute [local go_sem ↓] Go.wp_at_zero Go.wp_at_succ

def icheck (k : Key) : Int := icheckI k.seq.toNat k.kind.toNat k.user.length

theorem key_check (w : World) {F : Nat → Prop} {u : Value} (k : Key) (hu : Bs w F u k.user) (c : Int) (hc : icheck k = c) :
    Calls Try.prog 96 #[.agg #[u, u64V k.seq, byteV k.kind]] w fun e w' => e = .returned (.int .i64 c) ∧ Ext w w' := by
  obtain ⟨A, cap, rfl, _⟩ := hu.form
  rw [← hc]; exact ikey_checkI w A k.user.length cap k.seq.toNat k.kind.toNat

/-- What stays as the walk goes on: the list, the entry, its box. -/
structure InsA (w wr : World) (Foot F : Nat → Prop) (L : Nat) (v : Value) (ts : List Tw) (size : Int) (u x : Value) (e : Ent) : Prop where
  ext : Ext w wr
  sk : Sk wr Foot L v ts size
  bu : Bs wr F u e.key.user
  bx : Bs wr F x e.value
  box : wr.heap[w.heap.size]? = some (.cells #[u, u64V e.key.seq, byteV e.key.kind, x] 32)

variable {w wr w1 : World} {Foot F : Nat → Prop} {L : Nat} {v : Value} {ts : List Tw} {size : Int} {u x : Value} {e : Ent} {ord : List Nat}

theorem InsA.step (h : InsA w wr Foot F L v ts size u x e) (hx : Ext wr w1) : InsA w w1 Foot F L v ts size u x e :=
  ⟨h.ext.ext hx, h.sk.ext hx, h.bu.ext hx, h.bx.ext hx, hx.blk h.box (fun f => f)⟩

theorem InsA.start (h : Sk w Foot L v ts size) (hu : Bs w F u e.key.user) (hx : Bs w F x e.value) : InsA w (w.alloc (.cells #[u, u64V e.key.seq, byteV e.key.kind, x] 32)) Foot F L v ts size u x e :=
  ⟨Ext.alloc1 w _, h.ext (Ext.alloc1 w _), hu.alloc _, hx.alloc _, blk_new w _⟩

set_option maxRecDepth 100000 in
set_option maxHeartbeats 1000000 in
theorem ins_nil (w : World) (u x : Value) (e : Ent) (h : Int) {F : Nat → Prop} (hu : Bs w F u e.key.user) (hx : Bs w F x e.value) :
    Calls Try.prog 28 #[.pointer none, .agg #[u, u64V e.key.seq, byteV e.key.kind, x], .int .i64 h] w fun r w' => r = .returned (.int .i64 6) ∧ Ext w w' := by
  obtain ⟨U, N, c, rfl⟩ := hu.form0
  obtain ⟨X, M, d, rfl⟩ := hx.form0
  clear hu hx
  go_enter Try.func28, Try.ntmps28
  go_wp2
  go_ret
  exact ⟨rfl, Ext.alloc1 w _⟩

set_option maxRecDepth 100000 in
set_option maxHeartbeats 1000000 in
theorem ins_key (h : Sk w Foot L v ts size) (hu : Bs w F u e.key.user) (hx : Bs w F x e.value) (ht : Int) (hc : icheck e.key ≠ 0) :
    Calls Try.prog 28 #[.pointer (some ⟨L, 0, none⟩), .agg #[u, u64V e.key.seq, byteV e.key.kind, x], .int .i64 ht] w fun r w' => r = .returned (.int .i64 (icheck e.key)) ∧ Ext w w' := by
  obtain ⟨U, N, c, rfl⟩ := hu.form0
  obtain ⟨X, M, d, rfl⟩ := hx.form0
  have h0 := Lib.hid (InsA.start h hu hx)
  obtain ⟨b0, b1, b2, b3, -⟩ := cells4 h0.out.box
  generalize hcc : icheck e.key = cc at *
  have HC := Lib.hid hcc
  have hb : (cc != 0) = true := by simpa using hc
  clear h hu hx hcc hc
  go_enter Try.func28, Try.ntmps28
  go_wp2_with (go_at_call 96; refine (key_check _ e.key h0.out.bu cc HC.out).mono ?_; rintro r w1 ⟨rfl, hx1⟩)
  go_ret
  exact ⟨rfl, (h0.out.step hx1).ext⟩

set_option maxRecDepth 100000 in
set_option maxHeartbeats 1000000 in
theorem ins_height (h : Sk w Foot L v ts size) (hu : Bs w F u e.key.user) (hx : Bs w F x e.value) (ht : Int) (hc : icheck e.key = 0) (hh : ht < 1 ∨ 8 < ht) :
    Calls Try.prog 28 #[.pointer (some ⟨L, 0, none⟩), .agg #[u, u64V e.key.seq, byteV e.key.kind, x], .int .i64 ht] w fun r w' => r = .returned (.int .i64 1) ∧ Ext w w' := by
  obtain ⟨U, N, c, rfl⟩ := hu.form0
  obtain ⟨X, M, d, rfl⟩ := hx.form0
  have h0 := Lib.hid (InsA.start h hu hx)
  obtain ⟨b0, b1, b2, b3, -⟩ := cells4 h0.out.box
  have HC := Lib.hid hc
  clear h hu hx hc
  by_cases h1 : ht < 1
  · clear hh
    go_enter Try.func28, Try.ntmps28
    go_wp2_with (go_at_call 96; refine (key_check _ e.key h0.out.bu 0 HC.out).mono ?_; rintro r w1 ⟨rfl, hx1⟩)
    go_ret
    exact ⟨rfl, (h0.out.step hx1).ext⟩
  · have h2 : 8 < ht := by omega
    clear hh
    go_enter Try.func28, Try.ntmps28
    go_wp2_with (go_at_call 96; refine (key_check _ e.key h0.out.bu 0 HC.out).mono ?_; rintro r w1 ⟨rfl, hx1⟩)
    go_ret
    exact ⟨rfl, (h0.out.step hx1).ext⟩

set_option maxRecDepth 100000 in
set_option maxHeartbeats 1000000 in
theorem ins_long (h : Sk w Foot L v ts size) (hu : Bs w F u e.key.user) (hx : Bs w F x e.value) (ht : Int) (hc : icheck e.key = 0) (h1 : 1 ≤ ht) (h2 : ht ≤ 8) (hl : 512 < e.value.length) :
    Calls Try.prog 28 #[.pointer (some ⟨L, 0, none⟩), .agg #[u, u64V e.key.seq, byteV e.key.kind, x], .int .i64 ht] w fun r w' => r = .returned (.int .i64 3) ∧ Ext w w' := by
  obtain ⟨U, N, c, rfl⟩ := hu.form0
  obtain ⟨X, d, rfl, _⟩ := hx.form
  have h0 := Lib.hid (InsA.start h hu hx)
  obtain ⟨b0, b1, b2, b3, -⟩ := cells4 h0.out.box
  have HC := Lib.hid hc
  clear h hu hx hc
  go_enter Try.func28, Try.ntmps28
  go_wp2_with (go_at_call 96; refine (key_check _ e.key h0.out.bu 0 HC.out).mono ?_; rintro r w1 ⟨rfl, hx1⟩; obtain ⟨c0, c1, c2, c3, -⟩ := cells4 (h0.out.step hx1).box)
  go_ret
  exact ⟨rfl, (h0.out.step hx1).ext⟩
end Go.Proofs.Yteaanagljmcidaa
