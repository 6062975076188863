/- skip: a nil list's ways. -/
import Derived.Test.YteaanagljmcidaaSkAll
namespace Go.Proofs.Yteaanagljmcidaa
open Go.RowKit

theorem nil_len (w : World) : Calls Try.prog 30 #[.pointer none] w fun e w' => e = .returned (.int .i64 0) ∧ w = w' := by
  go_enter Try.func30, Try.ntmps30
  go_wp2
  go_ret
  exact ⟨rfl, rfl⟩
theorem nil_size (w : World) : Calls Try.prog 34 #[.pointer none] w fun e w' => e = .returned (.int .i64 0) ∧ w = w' := by
  go_enter Try.func34, Try.ntmps34
  go_wp2
  go_ret
  exact ⟨rfl, rfl⟩
set_option maxRecDepth 100000 in
theorem nil_insert (w : World) {e : Ent} {u x : Value} (ht : Int) : Calls Try.prog 28 #[.pointer none, .agg #[u, u64V e.key.seq, byteV e.key.kind, x], .int .i64 ht] w fun r w' => r = .returned (.int .i64 6) ∧ Ext w w' := by
  go_enter Try.func28, Try.ntmps28
  go_wp2
  go_ret
  exact ⟨rfl, Ext.alloc1 _ _⟩
theorem nil_from (w : World) {k : Key} {u : Value} : Calls Try.prog 35 #[.pointer none, .agg #[u, u64V k.seq, byteV k.kind]] w (Told w none) := by
  go_enter Try.func35, Try.ntmps35
  go_wp2
  refine bodyPost_ret (v := .tuple #[.agg #[.slice none 0 0, .int .u64 0, .int .u8 0, .slice none 0 0], .bool false]) (by simp [results, Try.results35, go_sem]) rfl (told_none _ _ (((Out.refl _ w).alloc _).alloc _))
theorem nil_before (w : World) {k : Key} {u : Value} : Calls Try.prog 37 #[.pointer none, .agg #[u, u64V k.seq, byteV k.kind]] w (Told w none) := by
  go_enter Try.func37, Try.ntmps37
  go_wp2
  refine bodyPost_ret (v := .tuple #[.agg #[.slice none 0 0, .int .u64 0, .int .u8 0, .slice none 0 0], .bool false]) (by simp [results, Try.results37, go_sem]) rfl (told_none _ _ (((Out.refl _ w).alloc _).alloc _))

section
attribute [local go_sem] Oper.semAt_some
theorem sk_eachNil {w : World} (n : Nat) (_hn1 : 1 ≤ n) (Bl Br : Nat) (hbl : w.cell? ⟨Bl, 0, none⟩ = some (.pointer none))
    (K : Nat → Prop) (hK2 : ¬ K Bl) (B : Nat) :
    Gives n Try.prog 153 #[.pointer (some ⟨Bl, 0, none⟩), .pointer (some ⟨Br, 0, none⟩)] EV.enc EV.Rd B K (fun xs => xs = []) 0 w := by
  intro l J W hKW _ _ _ h0
  have hl' := hKW.cell hbl hK2
  refine callsIn_of_wp Try.func153 rfl trivial ?_ rfl
  simp only [Try.ntmps153, List.size_toArray, List.length_cons, List.length_nil, Nat.reduceAdd, Nat.reduceSub, Array.replicate_succ, Array.replicate_zero, List.push_toArray, List.append_toArray, List.nil_append, List.cons_append]
  gi_wp2
  exact bodyPost_ret (v := .tuple #[]) (results_none rfl _ _ _) rfl ⟨⟨_, rfl⟩, [], rfl, h0, Out.refl _ _⟩

set_option maxRecDepth 100000 in
set_option maxHeartbeats 1000000 in
theorem nil_all (w : World) : Calls Try.prog 33 #[.pointer none] w (Owned entC 32 w []) := by
  refine (callsIn_wide (n := 5)).1 ?_
  refine callsIn_of_wp_marks Try.func33 rfl trivial ?_ rfl
  simp only [Try.ntmps33, List.size_toArray, List.length_cons, List.length_nil, Nat.reduceAdd, Nat.reduceSub, Array.replicate_succ, Array.replicate_zero, List.push_toArray, List.append_toArray, List.nil_append, List.cons_append]
  gi_wp2_with (first | (refine ⟨trivial, ?_⟩; gi_at_call 100; refine (callsIn_wide.2 (sk_each _ _ _)).mono ?_; rintro e w' ⟨rfl, rfl⟩))
  have hD : (((w.alloc (.cells #[.slice none 0 0] 43)).alloc (.cells #[.pointer none] 24)).alloc (.cells #[.int .i64 0] 3)).heap.size = w.heap.size + 3 := by simp
  have hx0 : Ext w (((w.alloc (.cells #[.slice none 0 0] 43)).alloc (.cells #[.pointer none] 24)).alloc (.cells #[.int .i64 0] 3)) := ((Ext.alloc1 _ _).alloc _).alloc _
  have c0 : (((w.alloc (.cells #[.slice none 0 0] 43)).alloc (.cells #[.pointer none] 24)).alloc (.cells #[.int .i64 0] 3)).heap[w.heap.size]? = some (.cells #[.slice none 0 0] 43) := blk_alloc (blk_alloc (blk_new _ _) _) _
  have c1 := (cells1 (blk_alloc (blk_at (w := w.alloc (.cells #[.slice none 0 0] 43)) (o := .cells #[.pointer none] 24) (n := w.heap.size + 1) (by simp)) (.cells #[.int .i64 0] 3))).1
  refine wp_rangeFunc (n := 5) 153 _ rfl (enters_of Try.func153 (by kernel_rfl) rfl) (w.heap.size + 3)
    (sk_eachNil 4 (by omega) (w.heap.size + 1) (w.heap.size + 1 + 1) c1 (fun b => w.heap.size ≤ b ∧ b ≠ w.heap.size + 1 ∧ b ≠ w.heap.size + 2) (fun h => h.2.1 rfl) _)
    hD (fun b hb => by omega) (fun _ => rfl)
    (fun pre W => Ext w W ∧ W.heap[w.heap.size]? = some (.cells #[.slice none 0 0] 43))
    ?hI ⟨hx0, c0⟩ ?round ?done
  case hI =>
    rintro pre A B ⟨hx, hb⟩ hAB
    exact ⟨hx.then hAB (fun i hi e => by omega), hAB.blk hb (fun e => by omega)⟩
  case round =>
    rintro l pre x W0 W hi hxt hsz hrd hlen
    exact absurd hlen (by omega)
  case done =>
    rintro xs W hS ⟨hx, hb⟩ hKW hdef
    obtain ⟨b0, bf⟩ := cells1 hb
    have Hx := Lib.hid hx
    have Hdef := Lib.hid hdef
    clear hx hb hS hdef
    gi_wp2
    refine ⟨by simp, .inl ⟨_, _, rfl, run_takeDeferred Hdef.out, ?_⟩⟩
    exact ⟨_, results_tmp rfl _ _ _, _, rfl, Hx.out.then (out_putObj _ _ _) (fun i hi e => by omega), Own.nil _ _ _ _ _⟩

set_option maxRecDepth 100000 in
set_option maxHeartbeats 1000000 in
theorem nil_row (w : World) (h : Int) : Calls Try.prog 29 #[.pointer none, .int .i64 h] w (Owned keyC 30 w []) := by
  by_cases hh : h < 1 ∨ 8 < h
  · refine (sk_rowOut w none h hh).mono ?_
    rintro r w' ⟨rfl, rfl⟩
    exact ⟨_, rfl, Out.refl _ _, Own.nil _ _ _ _ _⟩
  have h1 : 1 ≤ h := by omega
  have h2 : h ≤ 8 := by omega
  clear hh
  refine (callsIn_wide (n := 5)).1 ?_
  refine callsIn_of_wp_marks Try.func29 rfl trivial ?_ rfl
  simp only [Try.ntmps29, List.size_toArray, List.length_cons, List.length_nil, Nat.reduceAdd, Nat.reduceSub, Array.replicate_succ, Array.replicate_zero, List.push_toArray, List.append_toArray, List.nil_append, List.cons_append]
  gi_wp2_with (first | (refine ⟨trivial, ?_⟩; gi_at_call 100; refine (callsIn_wide.2 (sk_each _ _ _)).mono ?_; rintro e w' ⟨rfl, rfl⟩))
  generalize h - 1 = r
  have hD : (((w.alloc (.cells #[.slice none 0 0] 37)).alloc (.cells #[.pointer none] 24)).alloc (.cells #[.int .i64 r] 3)).heap.size = w.heap.size + 3 := by simp
  have hx0 : Ext w (((w.alloc (.cells #[.slice none 0 0] 37)).alloc (.cells #[.pointer none] 24)).alloc (.cells #[.int .i64 r] 3)) := ((Ext.alloc1 _ _).alloc _).alloc _
  have c0 : (((w.alloc (.cells #[.slice none 0 0] 37)).alloc (.cells #[.pointer none] 24)).alloc (.cells #[.int .i64 r] 3)).heap[w.heap.size]? = some (.cells #[.slice none 0 0] 37) := blk_alloc (blk_alloc (blk_new _ _) _) _
  have c1 := (cells1 (blk_alloc (blk_at (w := w.alloc (.cells #[.slice none 0 0] 37)) (o := .cells #[.pointer none] 24) (n := w.heap.size + 1) (by simp)) (.cells #[.int .i64 r] 3))).1
  refine wp_rangeFunc (n := 5) 153 _ rfl (enters_of Try.func153 (by kernel_rfl) rfl) (w.heap.size + 3)
    (sk_eachNil 4 (by omega) (w.heap.size + 1) (w.heap.size + 1 + 1) c1 (fun b => w.heap.size ≤ b ∧ b ≠ w.heap.size + 1 ∧ b ≠ w.heap.size + 2) (fun h => h.2.1 rfl) _)
    hD (fun b hb => by omega) (fun _ => rfl)
    (fun pre W => Ext w W ∧ W.heap[w.heap.size]? = some (.cells #[.slice none 0 0] 37))
    ?hI ⟨hx0, c0⟩ ?round ?done
  case hI =>
    rintro pre A B ⟨hx, hb⟩ hAB
    exact ⟨hx.then hAB (fun i hi e => by omega), hAB.blk hb (fun e => by omega)⟩
  case round =>
    rintro l pre x W0 W hi hxt hsz hrd hlen
    exact absurd hlen (by omega)
  case done =>
    rintro xs W hS ⟨hx, hb⟩ hKW hdef
    obtain ⟨b0, bf⟩ := cells1 hb
    have Hx := Lib.hid hx
    have Hdef := Lib.hid hdef
    clear hx hb hS hdef
    gi_wp2
    refine ⟨by simp, .inl ⟨_, _, rfl, run_takeDeferred Hdef.out, ?_⟩⟩
    exact ⟨_, results_tmp rfl _ _ _, _, rfl, Hx.out.then (out_putObj _ _ _) (fun i hi e => by omega), Own.nil _ _ _ _ _⟩
end
end Go.Proofs.Yteaanagljmcidaa
