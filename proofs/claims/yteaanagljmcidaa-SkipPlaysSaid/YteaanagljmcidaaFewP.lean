/- few: the first puts, cut. -/
import Derived.Test.YteaanagljmcidaaFew
import Derived.Deep.RegionLaw
namespace Go.Proofs.Yteaanagljmcidaa
open Go.RowKit

attribute [local go_sem ↓] Go.wp_at_zero Go.wp_at_succ

theorem fits34 : Fits Try.prog 22 34 putC.size 72 := fits_of Try.underlying22 (by decide) (by kernel_rfl : (Try.prog.info? 34).map (fun i => (i.zero, i.size, i.bytes)) = some (some (.agg #[.slice none 0 0, .int .u64 0, .int .u8 0, .slice none 0 0, .int .i64 0]), 5, 72)) rfl

def cutP (p : PutE) : PutE := ⟨cutE p.e, p.h⟩
def fewP (l : List PutE) : List PutE := (l.take 60).map cutP

theorem room_minP {l : List PutE} {k : Nat} : (((l.take (min k 60)).map cutP).length + 1) * 72 ≤ 140737488355328 := by
  have : ((l.take (min k 60)).map cutP).length ≤ 60 := by rw [List.length_map, List.length_take]; omega
  omega

theorem r3_few1 (w : World) {F : Nat → Prop} {x : Value} (e : Ent) (hx : Sl entCA w F x [e]) :
    Calls Try.prog 59 #[x, .int .i64 1] w (Listed w [cutE e]) := r3_few w [e] hx 1 (by decide)

set_option maxRecDepth 100000 in
set_option maxHeartbeats 1000000 in
theorem law08_few (w : World) {F : Nat → Prop} {x : Value} (l : List PutE) (hx : Sl putCA w F x l) :
    Calls Try.prog 27 #[x] w fun e w' => ∃ v, e = .returned v ∧ Ext w w' ∧ Sl putC w' (fun b => w.heap.size ≤ b) v (fewP l) := by
  obtain ⟨A, cap, rfl, h1, h2, h3, h4⟩ := hx.form
  have h5 : l.length ≤ 9223372036854775807 := h3
  have Hx := Lib.hid hx
  clear h1 h2 h3 h4 hx
  go_enter Try.func27, Try.ntmps27
  go_wp2
  go_loopw [3, 8] (fun o i wr => ∃ k : Nat, k ≤ l.length ∧ i = .int .i64 k ∧ Own putC 34 wr w.heap.size (fun b => w.heap.size ≤ b) o ((l.take (min k 60)).map cutP) ∧ Ext w wr) (fun _ i _ => l.length - (intOf i).toNat)
  case atStart => exact ⟨0, Nat.zero_le _, rfl, by rw [Nat.zero_min]; exact Own.nil _ _ _ _ _, Out.refl _ w⟩
  case round =>
    obtain ⟨k, hk, rfl, hown, hext⟩ := hrel
    by_cases hlt : k < l.length
    · obtain ⟨b1, o1, u1, v1, rfl, -, c0, c1, c2, c3, c4, hu, hv, p1, p2⟩ := (Hx.out.ext hext).putAt k hlt
      obtain ⟨U, N1, n1, rfl⟩ := hu.form0
      obtain ⟨V, N2, n2, rfl⟩ := hv.form0
      have hsz := hext.size
      have hown' := hown.ext (Ext.alloc1 wr (.cells #[.slice U N1 n1, u64V l[k].e.key.seq, byteV l[k].e.key.kind, .slice V N2 n2, .int .i64 l[k].h] 34))
      by_cases hkn : k < 60
      · have hu' := (hu.alloc (.cells #[.slice U N1 n1, u64V l[k].e.key.seq, byteV l[k].e.key.kind, .slice V N2 n2, .int .i64 l[k].h] 34))
        have hv' := (hv.alloc (.cells #[.slice U N1 n1, u64V l[k].e.key.seq, byteV l[k].e.key.kind, .slice V N2 n2, .int .i64 l[k].h] 34))
        obtain ⟨z0, z1, z2, z3, z4, -⟩ := cells5 (blk_new wr (.cells #[.slice U N1 n1, u64V l[k].e.key.seq, byteV l[k].e.key.kind, .slice V N2 n2, .int .i64 l[k].h] 34))
        have Own' := Lib.hid hown'
        have Lt := Lib.hid hown'.lt
        have Ne := Lib.hid hown.ne_new
        have Sz := Lib.hid (le_alloc hsz (.cells #[.slice U N1 n1, u64V l[k].e.key.seq, byteV l[k].e.key.kind, .slice V N2 n2, .int .i64 l[k].h] 34))
        have Hext := Lib.hid hext
        have Zb := Lib.hid (show ((wr.alloc (.cells #[.slice U N1 n1, u64V l[k].e.key.seq, byteV l[k].e.key.kind, .slice V N2 n2, .int .i64 l[k].h] 34)).alloc (.cells #[.slice U N1 n1, u64V l[k].e.key.seq, byteV l[k].e.key.kind, .slice V N2 n2] 32)).drew.heap[wr.heap.size]? = some (.cells #[.slice U N1 n1, u64V l[k].e.key.seq, byteV l[k].e.key.kind, .slice V N2 n2, .int .i64 l[k].h] 34) from blk_alloc (blk_new wr _) _)
        have Sz2 : Hid (w.heap.size ≤ ((wr.alloc (.cells #[.slice U N1 n1, u64V l[k].e.key.seq, byteV l[k].e.key.kind, .slice V N2 n2, .int .i64 l[k].h] 34)).alloc (.cells #[.slice U N1 n1, u64V l[k].e.key.seq, byteV l[k].e.key.kind, .slice V N2 n2] 32)).drew.heap.size) := Lib.hid (le_alloc Sz.out _)
        have Lt2 : Hid (∀ k_1, u3.ownBlock = some k_1 → w.heap.size ≤ k_1 ∧ k_1 < ((wr.alloc (.cells #[.slice U N1 n1, u64V l[k].e.key.seq, byteV l[k].e.key.kind, .slice V N2 n2, .int .i64 l[k].h] 34)).alloc (.cells #[.slice U N1 n1, u64V l[k].e.key.seq, byteV l[k].e.key.kind, .slice V N2 n2] 32)).drew.heap.size) := Lib.hid (hown'.ext (Ext.alloc1 _ _)).lt
        have Hu := Lib.hid hu'
        have Hv := Lib.hid hv'
        have P1 := Lib.hid p1
        have P2 := Lib.hid p2
        clear hext hown hown' hu hv hu' hv' p1 p2
        go_wp2
        go_region_law (first | (refine step_append_one (by rfl) (.tmp 15) (.tmp 25) 22 (by rfl) fits34 (((Own'.out.ext (Ext.alloc1 _ _).drew).ext hx1).ext (Ext.alloc1 _ _)) (by rfl) (le_alloc (Nat.le_trans Sz2.out hx1.size) _) (blk_new _ _) (by rfl) (cutP l[k]) ⟨_, _, rfl, (hb1.alloc _).mono (fun b hb _ => fresh_ok Sz2.out Lt2.out hb) (.inl (by decide)), (hb2.alloc _).mono (fun b hb _ => fresh_ok Sz2.out Lt2.out hb) (.inl (by decide)), P1.out, P2.out⟩ room_minP (by decide) ?_; intro v' w' g1 g2 g3) | (go_simp; go_at_call 59; refine (r3_few1 _ l[k].e (F := fun _ => True) (Sl.one (blk_atD (by simp)) (ent_repA (Hu.out.alloc _).drew (Hv.out.alloc _).drew (fun _ _ _ => trivial) (fun _ _ _ => trivial)) trivial)).mono ?_; rintro x w1 ⟨x1, rfl, hx1, hs1⟩; obtain ⟨B1, O1, C1, X1, Y1, rfl, hF1, d0, d1, d2, d3, hb1, hb2⟩ := hs1.ent0; obtain ⟨A1, k1, m1, rfl⟩ := hb1.form0; obtain ⟨A2, k2, m2, rfl⟩ := hb2.form0; obtain ⟨z0', z1', z2', z3', z4', -⟩ := cells5 (hx1.blk Zb.out (fun f => f))))
        all_goals
          go_wp2
          go_roundw
          case rel => exact ⟨k + 1, by omega, by go_num, by rw [take_min_succ hlt hkn, List.map_append]; exact g1, Out.own (((((Hext.out.alloc _).alloc _).drew).ext hx1).alloc _) g2 (fun k h => (Lt2.out k h).1) (Nat.le_refl _)⟩
          case measure => simp [intOf]; omega
      · have Hown := Lib.hid hown'
        have Hext := Lib.hid hext
        clear hext hown hown'
        go_wp2
        go_roundw
        case rel => exact ⟨k + 1, by omega, by go_num, by rw [show min (k + 1) 60 = min k 60 from by omega]; exact Hown.out, Hext.out.alloc _⟩
        case measure => simp [intOf]; omega
    · go_wp2
      go_ret
      have hkl : l.take (min k 60) = l.take 60 := by
        rcases Nat.le_total k 60 with h | h
        · rw [Nat.min_eq_left h, List.take_of_length_le (by omega), List.take_of_length_le (by omega)]
        · rw [Nat.min_eq_right h]
      rw [hkl] at hown
      exact ⟨_, rfl, hext, hown.sl (by decide) (by rw [List.length_map, List.length_take]; show _ ≤ 140737488355328; omega) (fun b hb _ => hb) (fun b hb _ => hb)⟩
end Go.Proofs.Yteaanagljmcidaa
