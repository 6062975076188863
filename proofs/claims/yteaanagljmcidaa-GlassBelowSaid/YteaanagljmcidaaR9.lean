/- ref09: Covers, Cover, Same (of two that are alike). -/
import Derived.Test.YteaanagljmcidaaPkA
namespace Go.Proofs.Yteaanagljmcidaa
open Go.RowKit

attribute [local go_sem ↓] Go.wp_at_zero Go.wp_at_succ

theorem r9_covers (w : World) {F G H : Nat → Prop} {u v x : Value} (s : SpanE) (k : List UInt8) (hu : Bs w F u s.frm) (hv : Bs w G v s.til) (hx : Bs w H x k) :
    Calls Try.prog 130 #[.agg #[u, v, u64V s.seq], x] w fun e w' => e = .returned (.bool (coversB s k)) ∧ Ext w w' := by
  obtain ⟨U, N, n, rfl⟩ := hu.form0
  obtain ⟨V, M, m, rfl⟩ := hv.form0
  obtain ⟨X, P, p, rfl⟩ := hx.form0
  have x1 := Ext.alloc1 w (.cells #[.slice U N n, .slice V M m, u64V s.seq] 92)
  obtain ⟨z0, z1, z2, -⟩ := cells3 (blk_new w (.cells #[.slice U N n, .slice V M m, u64V s.seq] 92))
  have H1 := Lib.hid (r1_less (w.alloc (.cells #[.slice U N n, .slice V M m, u64V s.seq] 92)) (hx.ext x1) (hu.ext x1))
  have H2 := Lib.hid (r1_less (w.alloc (.cells #[.slice U N n, .slice V M m, u64V s.seq] 92)) (hx.ext x1) (hv.ext x1))
  have X1 := Lib.hid x1
  unfold coversB
  generalize Op.bytesLess k s.frm = a at *
  generalize Op.bytesLess k s.til = b at *
  clear hu hv hx x1
  obtain ⟨mk1, -⟩ : ∃ x : Nat, x = 0 := ⟨0, rfl⟩
  cases a
  · go_enter Try.func130, Try.ntmps130
    go_wp2_with (first
      | (have hh := mk1; clear hh; go_at_call 82; refine H1.out.mono ?_; rintro r w1 ⟨rfl, rfl⟩; clear mk1)
      | (go_at_call 82; refine H2.out.mono ?_; rintro r w1 ⟨rfl, rfl⟩))
    go_ret
    exact ⟨by simp, X1.out⟩
  · go_enter Try.func130, Try.ntmps130
    go_wp2_with (go_at_call 82; refine H1.out.mono ?_; rintro r w1 ⟨rfl, rfl⟩)
    go_ret
    exact ⟨by simp, X1.out⟩

set_option maxRecDepth 100000 in
set_option maxHeartbeats 4000000 in
theorem r9_cover (w : World) {F H : Nat → Prop} {v x : Value} (l : List SpanE) (hv : Sl spanC w F v l) (k : List UInt8) (hx : Bs w H x k) (q : Nat) :
    Calls Try.prog 129 #[v, x, .int .u64 (q : Int)] w fun e w' => e = .returned (.int .u64 (coverE l k q : Nat)) ∧ Ext w w' := by
  obtain ⟨X, M, m, rfl⟩ := hx.form0
  obtain ⟨V, c, rfl, h1, h2, h3, h4⟩ := hv.form
  have hmax' : l.length ≤ 140737488355328 := h3
  have Hv := Lib.hid hv
  have Hk := Lib.hid hx
  clear hv hx h1 h2 h3 h4
  go_enter Try.func129, Try.ntmps129
  go_wp2
  go_loopw [7, 12] (fun s7 s12 wr => ∃ i : Nat, i ≤ l.length ∧ s12 = .int .i64 i ∧ s7 = .int .u64 (coverE (l.take i) k q : Nat) ∧ Ext w wr) (fun _ s12 _ => l.length - (intOf s12).toNat)
  case atStart => exact ⟨0, Nat.zero_le _, rfl, rfl, Out.refl _ _⟩
  case round =>
    obtain ⟨wo, rfl⟩ : ∃ x : World, x = wr := ⟨_, rfl⟩
    obtain ⟨i, hi, rfl, rfl, hxi⟩ := hrel
    have HX := Lib.hid hxi
    clear hxi
    by_cases hlt : i < l.length
    · obtain ⟨b, off, ux, uy, rfl, -, e0, e1, e2, hu, hv2⟩ := (Hv.out.ext HX.out).span i hlt
      obtain ⟨U, N1, n1, rfl⟩ := hu.form0
      obtain ⟨V2, N2, n2, rfl⟩ := hv2.form0
      have x1 := Ext.alloc1 wo (.cells #[.slice U N1 n1, .slice V2 N2 n2, u64V l[i].seq] 92)
      have hz := blk_new wo (.cells #[.slice U N1 n1, .slice V2 N2 n2, u64V l[i].seq] 92)
      obtain ⟨z0, z1, z2, -⟩ := cells3 hz
      have Hz := Lib.hid hz
      have HC := Lib.hid (r9_covers (wo.alloc (.cells #[.slice U N1 n1, .slice V2 N2 n2, u64V l[i].seq] 92)) l[i] k (hu.ext x1) (hv2.ext x1) ((Hk.out.ext HX.out).ext x1))
      have X1 := Lib.hid (HX.out.ext x1)
      have Hs := Lib.hid (coverE_succ hlt k q)
      have hlim : ((l[i].seq.toNat : Int)) ≤ 18446744073709551615 := by have := l[i].seq.toNat_lt; omega
      clear hu hv2 hz x1
      generalize coverE (l.take i) k q = best at *
      cases hcv : coversB l[i] k with
      | true =>
        rw [hcv] at HC
        by_cases hq : l[i].seq.toNat ≤ q
        · by_cases hb : best < l[i].seq.toNat
          · have Hs' : Hid (coverE (l.take (i + 1)) k q = l[i].seq.toNat) := Lib.hid (by rw [Hs.out]; unfold coverStep; rw [if_pos ⟨hq, hcv⟩]; omega)
            clear hcv
            go_wp2_with (go_at_call 130; refine HC.out.mono ?_; rintro r w1 ⟨rfl, hx1⟩; obtain ⟨y0, y1, y2, -⟩ := cells3 (hx1.blk Hz.out (fun f => f)))
            go_roundw
            case rel => exact ⟨i + 1, by omega, by go_num, by rw [Hs'.out], X1.out.ext hx1⟩
            case measure => simp [intOf]; omega
          · have Hs' : Hid (coverE (l.take (i + 1)) k q = best) := Lib.hid (by rw [Hs.out]; unfold coverStep; rw [if_pos ⟨hq, hcv⟩]; omega)
            clear hcv
            go_wp2_with (go_at_call 130; refine HC.out.mono ?_; rintro r w1 ⟨rfl, hx1⟩; obtain ⟨y0, y1, y2, -⟩ := cells3 (hx1.blk Hz.out (fun f => f)))
            go_roundw
            case rel => exact ⟨i + 1, by omega, by go_num, by rw [Hs'.out], X1.out.ext hx1⟩
            case measure => simp [intOf]; omega
        · have Hs' : Hid (coverE (l.take (i + 1)) k q = best) := Lib.hid (by rw [Hs.out]; unfold coverStep; exact if_neg (fun h => hq h.1))
          clear hcv
          go_wp2_with (go_at_call 130; refine HC.out.mono ?_; rintro r w1 ⟨rfl, hx1⟩; obtain ⟨y0, y1, y2, -⟩ := cells3 (hx1.blk Hz.out (fun f => f)))
          go_roundw
          case rel => exact ⟨i + 1, by omega, by go_num, by rw [Hs'.out], X1.out.ext hx1⟩
          case measure => simp [intOf]; omega
      | false =>
        rw [hcv] at HC
        have Hs' : Hid (coverE (l.take (i + 1)) k q = best) := Lib.hid (by rw [Hs.out]; unfold coverStep; exact if_neg (fun h => by have h2 := h.2; rw [hcv] at h2; cases h2))
        clear hcv
        go_wp2_with (go_at_call 130; refine HC.out.mono ?_; rintro r w1 ⟨rfl, hx1⟩)
        go_roundw
        case rel => exact ⟨i + 1, by omega, by go_num, by rw [Hs'.out], X1.out.ext hx1⟩
        case measure => simp [intOf]; omega
    · obtain rfl : i = l.length := by omega
      rw [List.take_length]
      go_wp2
      go_ret
      exact ⟨rfl, HX.out⟩

theorem beq_self_list9 (l : List UInt8) : (l == l) = true := by simp

set_option maxRecDepth 100000 in
set_option maxHeartbeats 4000000 in
theorem r9_sameEq (w : World) {F G : Nat → Prop} {x y : Value} (l : List SpanE) (hx : Sl spanC w F x l) (hy : Sl spanC w G y l) :
    Calls Try.prog 66 #[x, y] w fun e w' => e = .returned (.bool true) ∧ Ext w w' := by
  obtain ⟨A, cap, rfl, h1, h2, h3, h4⟩ := hx.form
  obtain ⟨B, cap', rfl, g1, g2, g3, g4⟩ := hy.form
  have h3 : l.length ≤ 140737488355328 := h3
  have Hx := Lib.hid hx
  have Hy := Lib.hid hy
  clear h1 h2 h4 g1 g2 g3 g4 hx hy
  obtain ⟨mk1, -⟩ : ∃ x : Nat, x = 0 := ⟨0, rfl⟩
  go_enter Try.func66, Try.ntmps66
  go_wp2
  go_loopw [13] (fun i wr => ∃ k : Nat, k ≤ l.length ∧ i = .int .i64 k ∧ Ext w wr) (fun i _ => l.length - (intOf i).toNat)
  case atStart => exact ⟨0, Nat.zero_le _, rfl, Out.refl _ w⟩
  case round =>
    obtain ⟨k, hk, rfl, hext⟩ := hrel
    by_cases hlt : k < l.length
    · obtain ⟨b1, o1, u1, v1, rfl, -, c0, c1, c2, hu, hv⟩ := (Hx.out.ext hext).span k hlt
      obtain ⟨b2, o2, u2, v2, rfl, -, d0, d1, d2, hu', hv'⟩ := (Hy.out.ext hext).span k hlt
      obtain ⟨U1, N1, n1, rfl⟩ := hu.form0
      obtain ⟨V1, N2, n2, rfl⟩ := hv.form0
      obtain ⟨U2, N3, n3, rfl⟩ := hu'.form0
      obtain ⟨V2, N4, n4, rfl⟩ := hv'.form0
      have HK := Lib.hid (r1_same _ hu.drew hu'.drew)
      have HV := Lib.hid (r1_same _ hv.drew hv'.drew)
      rw [beq_self_list9] at HK HV
      have Hext := Lib.hid hext
      clear hext hu hv hu' hv'
      go_wp2
      go_region_held3 (fun w' => (w'.cell? ⟨b1, o1 + k * 3, none⟩ = some (.slice U1 N1 n1) ∧ w'.cell? ⟨b1, o1 + k * 3 + 1, none⟩ = some (.slice V1 N2 n2) ∧ w'.cell? ⟨b1, o1 + k * 3 + 2, none⟩ = some (u64V l[k].seq)) ∧ (w'.cell? ⟨b2, o2 + k * 3, none⟩ = some (.slice U2 N3 n3) ∧ w'.cell? ⟨b2, o2 + k * 3 + 1, none⟩ = some (.slice V2 N4 n4) ∧ w'.cell? ⟨b2, o2 + k * 3 + 2, none⟩ = some (u64V l[k].seq))) (first | go_keep)
        (first
          | (have hh := mk1; clear hh; go_at_call 74; refine HK.out.mono ?_; rintro x w1 ⟨rfl, rfl⟩; clear mk1)
          | (go_at_call 74; refine HV.out.mono ?_; rintro x w1 ⟨rfl, rfl⟩))
      go_wp2
      go_roundw
      case rel => exact ⟨k + 1, by omega, by go_num, Hext.out.drew⟩
      case measure => simp [intOf]; omega
    · go_wp2
      go_ret
      exact ⟨rfl, hext⟩
end Go.Proofs.Yteaanagljmcidaa
