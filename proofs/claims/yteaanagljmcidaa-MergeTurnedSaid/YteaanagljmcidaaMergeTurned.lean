/- law14: MergeTurned. -/
import Derived.Test.YteaanagljmcidaaLawM
namespace Go.Proofs.Yteaanagljmcidaa
open Go.RowKit

attribute [local go_sem ↓] Go.wp_at_zero Go.wp_at_succ

set_option maxRecDepth 100000 in
set_option maxHeartbeats 4000000 in
theorem mergeTurned_walk (w : World) {F : Nat → Prop} {x : Value} (ls : List (List Ent)) (hx : Sl listCA w F x ls) : Calls Try.prog 10 #[x] w fun e w' => e = .returned (.bool true) ∧ Ext w w' := by
  obtain ⟨A, N, n, rfl⟩ := hx.form0
  have Hx := Lib.hid hx
  clear hx
  have HS := Lib.hid (few14_sorted (ls := ls))
  have hA := few14_all true ls
  have hL6 := few14_le true ls
  have HM := Lib.hid (fun l (h : l ∈ few14 true ls) => few14_mem h)
  go_enter Try.func10, Try.ntmps10
  go_wp2_with (first
    | (go_at_call 44; refine (law14_awake _).mono ?_; rintro r w1 ⟨rfl, hx1⟩; have HX1 := Lib.hid hx1; clear hx1)
    | (go_at_call 45; refine (law14_few _ ls (Hx.out.ext HX1.out) true).mono ?_; rintro r w2 ⟨x2, rfl, hx2, hl2⟩; have HX2 := Lib.hid (HX1.out.ext hx2); have HL2 := Lib.hid hl2; obtain ⟨A2, k2, m2, rfl⟩ := hl2.form0; clear hx2 hl2)
    | (go_at_call 47; refine (new_ok HL2.out (by omega) (fun l hl => by have := HM.out l hl; omega) HS.out).mono ?_; rintro e w3 ⟨hx3, C, cv, rfl, hc3, hh3⟩; have HX3 := Lib.hid (HX2.out.ext hx3); have HC3 := Lib.hid hc3; have HH3 := Lib.hid hh3; have hz3 := HX2.out.size; clear hx3 hc3 hh3)
    | (go_at_call 49; refine (me_all HC3.out HS.out (by omega) hA).mono ?_; rintro e w4 ⟨v4, rfl, hx4, ho4⟩; have HX4 := Lib.hid (HX3.out.ext hx4); have HC4 := Lib.hid (HC3.out.ext hx4); have hsl4 := ho4.sl (G := fun b => w3.heap.size ≤ b) (by decide) (by show _ ≤ 140737488355328; omega) (fun b hb _ => hb) (fun b hb _ => hb); have HW4 := Lib.hid hsl4; obtain ⟨A4, c4, rfl, -⟩ := hsl4.form; clear hx4 ho4 hsl4)
    | (go_at_call 51; refine (at_last HS.out HC4.out).mono ?_; rintro e w5 ⟨rfl, ho5, hc5⟩; have HO5 := Lib.hid ho5; have HC5 := Lib.hid hc5; clear ho5 hc5))
  have HHL : Hid (∀ b, hot C cv b → w.heap.size ≤ b ∧ b < w3.heap.size) := Lib.hid fun b hb => ⟨by have := HH3.out b hb; omega, HC3.out.lt b hb⟩
  generalize few14 true ls = L at *
  go_loopw [6, 7] (fun s6 s7 wr => ∃ m : Nat, m ≤ (allE L).length ∧ s6 = .int .i64 m ∧ s7 = .bool (decide (0 < m)) ∧ Out (hot C cv) w4 wr ∧ Cur wr (fun b => w2.heap.size ≤ b ∧ b ≠ C ∧ cv.ownBlock ≠ some b) C cv L (atI L ((m : Int) - 1))) (fun s6 _ _ => (intOf s6).toNat)
  case atStart =>
    refine ⟨(allE L).length, Nat.le_refl _, rfl, ?_, HO5.out, HC5.out⟩
    congr 1
    rw [← Bool.decide_and, decide_eq_decide]; omega
  case round =>
    obtain ⟨wo, rfl⟩ : ∃ x : World, x = wr := ⟨_, rfl⟩
    obtain ⟨m, hm, rfl, rfl, ho, hc⟩ := hrel
    have HO := Lib.hid ho
    have HC := Lib.hid hc
    clear ho hc
    by_cases hlt : 0 < m
    · obtain ⟨q, rfl⟩ : ∃ q, m = q + 1 := ⟨m - 1, by omega⟩
      have hq : q < (allE L).length := by omega
      have HCq : Hid (Cur wo (fun b => w2.heap.size ≤ b ∧ b ≠ C ∧ cv.ownBlock ≠ some b) C cv L (atI L (q : Int))) := Lib.hid (by have := HC.out; rwa [show (((q + 1 : Nat) : Int) - 1) = (q : Int) by omega] at this)
      have HWo := Lib.hid (HW4.out.out HO.out (fun b _ hb h => by have := HHL.out b h; omega))
      obtain ⟨b2, o2, u2, v2, hA2, -, d0, d1, d2, d3, hu2, hv2⟩ := HWo.out.ent q hq
      subst hA2
      obtain ⟨U2, P2, p2, rfl⟩ := hu2.form0
      obtain ⟨V2, Q2, q2, rfl⟩ := hv2.form0
      have hw1 : IntKind.i64.wrap (((q + 1 : Nat) : Int) - 1) = (q : Int) := by rw [IntKind.wrap_i64]; omega
      have hw2 : IntKind.i64.wrap ((q : Int) + 1 - 1) = (q : Int) := by rw [IntKind.wrap_i64]; omega
      have hw3 : IntKind.i64.wrap (q : Int) = (q : Int) := by rw [IntKind.wrap_i64]; omega
      have hw4 : ¬ ((q : Int) < 0) := by omega
      have Hu2 := Lib.hid hu2
      have Hv2 := Lib.hid hv2
      clear hu2 hv2
      go_wp2_with (go_at_call 57; refine (at_here HS.out hq HCq.out).mono ?_; rintro e w6 ⟨u6, v6, rfl, hx6, hu6, hv6⟩; simp only [Option.getD_some, Option.isSome_some] at *; obtain ⟨U6, k6, m6, rfl⟩ := hu6.form0; obtain ⟨V6, p6, q6, rfl⟩ := hv6.form0; have hx6' := hx6.alloc (.cells #[.slice U6 k6 m6, u64V (allE L)[q].key.seq, byteV (allE L)[q].key.kind, .slice V6 p6 q6] 32); obtain ⟨t0, t1, t2, t3, -⟩ := cells4 (blk_new w6 (.cells #[.slice U6 k6 m6, u64V (allE L)[q].key.seq, byteV (allE L)[q].key.kind, .slice V6 p6 q6] 32)); have f0 := hx6'.cell d0 (fun f => f); have f1 := hx6'.cell d1 (fun f => f); have f2 := hx6'.cell d2 (fun f => f); have f3 := hx6'.cell d3 (fun f => f); have HX6 := Lib.hid hx6'; have HU6 := Lib.hid (hu6.alloc (.cells #[.slice U6 k6 m6, u64V (allE L)[q].key.seq, byteV (allE L)[q].key.kind, .slice V6 p6 q6] 32)).drew; have HV6 := Lib.hid (hv6.alloc (.cells #[.slice U6 k6 m6, u64V (allE L)[q].key.seq, byteV (allE L)[q].key.kind, .slice V6 p6 q6] 32)).drew; have HU2 := Lib.hid (Hu2.out.ext hx6').drew; have HV2 := Lib.hid (Hv2.out.ext hx6').drew; clear hx6 hx6' hu6 hv6 d0 d1 d2 d3)
      go_region_held3 (fun w' => w'.cell? ⟨w6.heap.size, 0, none⟩ = some (.slice U6 k6 m6) ∧ w'.cell? ⟨w6.heap.size, 1, none⟩ = some (u64V (allE L)[q].key.seq) ∧ w'.cell? ⟨w6.heap.size, 2, none⟩ = some (byteV (allE L)[q].key.kind) ∧ w'.cell? ⟨w6.heap.size, 3, none⟩ = some (.slice V6 p6 q6) ∧ w'.cell? ⟨b2, o2 + q * 4, none⟩ = some (.slice U2 P2 p2) ∧ w'.cell? ⟨b2, o2 + q * 4 + 1, none⟩ = some (u64V (allE L)[q].key.seq) ∧ w'.cell? ⟨b2, o2 + q * 4 + 2, none⟩ = some (byteV (allE L)[q].key.kind) ∧ w'.cell? ⟨b2, o2 + q * 4 + 3, none⟩ = some (.slice V2 Q2 q2)) (first | go_keep | exact ⟨hx7.cell t0 (fun f => f), hx7.cell t1 (fun f => f), hx7.cell t2 (fun f => f), hx7.cell t3 (fun f => f), hx7.cell f0 (fun f => f), hx7.cell f1 (fun f => f), hx7.cell f2 (fun f => f), hx7.cell f3 (fun f => f)⟩) (first | (go_at_call 36; refine (r3_sameEntReflM (allE L)[q] HU6.out HU2.out HV6.out HV2.out).mono ?_; rintro r w7 ⟨rfl, hx7⟩))
      have HX7 := Lib.hid ((HX6.out.drew).ext hx7)
      go_wp2_with (go_at_call 56; refine (at_prev HS.out hq (HCq.out.ext HX7.out)).mono ?_; rintro e w8 ⟨rfl, ho8, hc8⟩; have HO8 := Lib.hid ho8; have HC8 := Lib.hid hc8; clear ho8 hc8)
      go_roundw
      case rel =>
        refine ⟨q, by omega, by go_num, ?_, (HO.out.ext HX7.out).trans HO8.out, HC8.out⟩
        congr 1
        rw [← Bool.decide_and, decide_eq_decide]; omega
      case measure => first | (simp [intOf]; done) | (simp [intOf]; omega)
    · obtain rfl : m = 0 := by omega
      go_wp2
      go_ret
      exact ⟨rfl, HX4.out.then HO.out (fun b hb h => by have := HHL.out b h; omega)⟩
end Go.Proofs.Yteaanagljmcidaa
