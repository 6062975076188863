/- ref04: CheckOp, Check, Copy, Same (of two that are alike). -/
import Derived.Test.YteaanagljmcidaaPkC
namespace Go.Proofs.Yteaanagljmcidaa
open Go.RowKit

attribute [local go_sem ↓] Go.wp_at_zero Go.wp_at_succ

set_option maxRecDepth 100000 in
set_option maxHeartbeats 4000000 in
theorem r4_checkI (w : World) (U V : Option Addr) (kd a n b m : Nat) (q : Bool)
    (HL : Calls Try.prog 82 #[.slice U a n, .slice V b m] (w.alloc (.cells #[.int .u8 kd, .slice U a n, .slice V b m] 112)) fun e w' => e = .returned (.bool q) ∧ (w.alloc (.cells #[.int .u8 kd, .slice U a n, .slice V b m] 112)) = w') :
    Calls Try.prog 85 #[.agg #[.int .u8 kd, .slice U a n, .slice V b m]] w fun e w' => e = .returned (.int .i64 (ocheckI kd a b q)) ∧ Ext w w' := by
  obtain ⟨z0, z1, z2, -⟩ := cells3 (blk_new w (.cells #[.int .u8 kd, .slice U a n, .slice V b m] 112))
  have X1 := Lib.hid (Ext.alloc1 w (.cells #[.int .u8 kd, .slice U a n, .slice V b m] 112))
  have H := Lib.hid HL
  clear HL
  unfold ocheckI
  by_cases h1 : kd = 1
  · subst h1
    clear H
    go_enter Try.func85, Try.ntmps85
    go_wp2
    all_goals
      go_ret
      refine ⟨ret_of ?_, (by first | exact X1.out | exact Ext.alloc1 _ _ | exact Out.refl _ _)⟩
      (try simp only [beq_eq_false_iff_ne, ne_eq] at *) <;> (first | omega | ((repeat' split) <;> first | rfl | omega) | (simp <;> omega))
  by_cases h2 : kd = 2
  · subst h2
    clear H h1
    go_enter Try.func85, Try.ntmps85
    go_wp2
    all_goals
      go_ret
      refine ⟨ret_of ?_, (by first | exact X1.out | exact Ext.alloc1 _ _ | exact Out.refl _ _)⟩
      (try simp only [beq_eq_false_iff_ne, ne_eq] at *) <;> (first | omega | ((repeat' split) <;> first | rfl | omega) | (simp <;> omega))
  by_cases h3 : kd = 3
  · subst h3
    clear h1 h2
    cases q
    all_goals
      go_enter Try.func85, Try.ntmps85
      go_wp2_with (go_at_call 82; refine H.out.mono ?_; rintro r w1 ⟨rfl, rfl⟩)
    all_goals
      go_ret
      refine ⟨ret_of ?_, (by first | exact X1.out | exact Ext.alloc1 _ _ | exact Out.refl _ _)⟩
      (try simp only [beq_eq_false_iff_ne, ne_eq] at *) <;> (first | omega | ((repeat' split) <;> first | rfl | omega) | (simp <;> omega))
  · clear H
    go_enter Try.func85, Try.ntmps85
    go_wp2
    all_goals
      go_ret
      refine ⟨ret_of ?_, (by first | exact X1.out | exact Ext.alloc1 _ _ | exact Out.refl _ _)⟩
      (try simp only [ne_eq] at *) <;> (first | omega | ((repeat' split) <;> first | rfl | omega) | (simp <;> omega))
theorem r4_checkOp (w : World) {F G : Nat → Prop} {u v : Value} (o : OpE) (hu : Bs w F u o.key) (hv : Bs w G v o.val) : Calls Try.prog 85 #[.agg #[byteV o.kind, u, v]] w fun e w' => e = .returned (.int .i64 (ocheck o)) ∧ Ext w w' := by
  obtain ⟨U, n, rfl, -⟩ := hu.form
  obtain ⟨V, m, rfl, -⟩ := hv.form
  exact r4_checkI w U V _ _ n _ m _ (r1_less _ (hu.alloc _) (hv.alloc _))

set_option maxRecDepth 100000 in
set_option maxHeartbeats 2000000 in
theorem r4_check (w : World) {F : Nat → Prop} {v : Value} (l : List OpE) (hv : Sl opC w F v l) : Calls Try.prog 163 #[v] w fun e w' => e = .returned (.int .i64 (bcheck l)) ∧ Ext w w' := by
  obtain ⟨A, cap, rfl, h1, h2, h3, h4⟩ := hv.form
  have h5 : l.length ≤ 140737488355328 := h3
  have Hv := Lib.hid hv
  clear h1 h2 h3 h4 hv
  unfold bcheck
  by_cases hl : 64 < l.length
  · rw [if_pos hl]
    go_enter Try.func163, Try.ntmps163
    go_wp2
    go_ret
    exact ⟨rfl, Out.refl _ _⟩
  rw [if_neg hl]
  have hl' : l.length ≤ 64 := by omega
  clear hl
  go_enter Try.func163, Try.ntmps163
  go_wp2
  go_loopw [11] (fun s wr => ∃ i : Nat, i ≤ l.length ∧ s = .int .i64 i ∧ Ext w wr ∧ (∀ j (_ : j < i) (hj : j < l.length), ocheck l[j] = 0)) (fun s _ => l.length - (intOf s).toNat)
  case atStart => exact ⟨0, Nat.zero_le _, rfl, Out.refl _ _, fun j hj => absurd hj (by omega)⟩
  case round =>
    obtain ⟨i, hi, rfl, hxi, hall⟩ := hrel
    have HX := Lib.hid hxi
    have Hall := Lib.hid hall
    clear hxi hall
    by_cases hlt : i < l.length
    · obtain ⟨b, off, u, x, rfl, -, c0, c1, c2, hu, hx⟩ := (Hv.out.ext HX.out).op i hlt
      obtain ⟨U, N1, n1, rfl⟩ := hu.form0
      obtain ⟨X, N2, n2, rfl⟩ := hx.form0
      have x1 := Ext.alloc1 wr (.cells #[byteV l[i].kind, .slice U N1 n1, .slice X N2 n2] 112)
      obtain ⟨z0, z1, z2, -⟩ := cells3 (blk_new wr (.cells #[byteV l[i].kind, .slice U N1 n1, .slice X N2 n2] 112))
      have HC := Lib.hid (r4_checkOp (wr.alloc (.cells #[byteV l[i].kind, .slice U N1 n1, .slice X N2 n2] 112)) l[i] (hu.ext x1) (hx.ext x1))
      have X1 := Lib.hid (HX.out.ext x1)
      have Hat := Lib.hid (bcheckL_at hlt Hall.out)
      clear hu hx x1
      obtain ⟨c, hc⟩ : ∃ c, ocheck l[i] = c := ⟨_, rfl⟩
      rw [hc] at HC Hat
      have Hc := Lib.hid hc
      clear hc
      by_cases h0 : c = 0
      · subst h0
        go_wp2_with (go_at_call 85; refine HC.out.mono ?_; rintro r w1 ⟨rfl, hx1⟩)
        go_roundw
        case rel => exact ⟨i + 1, by omega, by go_num, X1.out.ext hx1, fun j hj hjl => by
          rcases Nat.lt_or_ge j i with h | h
          · exact Hall.out j h hjl
          · obtain rfl : j = i := by omega
            exact Hc.out⟩
        case measure => simp [intOf]; omega
      · have hcb : (c != 0) = true := by simpa using h0
        have He := Lib.hid (Hat.out h0)
        clear h0 Hat
        go_wp2_with (go_at_call 85; refine HC.out.mono ?_; rintro r w1 ⟨rfl, hx1⟩)
        go_ret
        exact ⟨ret_of He.out.symm, X1.out.ext hx1⟩
    · obtain rfl : i = l.length := by omega
      go_wp2
      go_ret
      exact ⟨ret_of (bcheckL_all fun j hj => Hall.out j hj hj).symm, HX.out⟩

set_option maxRecDepth 100000 in
set_option maxHeartbeats 2000000 in
theorem r4_copy (w : World) {F : Nat → Prop} {x : Value} (l : List OpE) (hx : Sl opC w F x l) (hl : l.length < 1000000000000) :
    Calls Try.prog 133 #[x] w (OwnedM opC 112 w l) := by
  obtain ⟨A, cap, rfl, h1, h2, h3, h4⟩ := hx.form
  have Hx := Lib.hid hx
  clear h1 h2 h3 h4 hx
  obtain ⟨mk1, -⟩ : ∃ x : Nat, x = 0 := ⟨0, rfl⟩
  go_enter Try.func133, Try.ntmps133
  go_wp2
  go_loopw [3, 8] (fun o i wr => ∃ k : Nat, k ≤ l.length ∧ i = .int .i64 k ∧ Own opC 112 wr w.heap.size (fun b => w.heap.size ≤ b) o (l.take k) ∧ Ext w wr) (fun _ i _ => l.length - (intOf i).toNat)
  case atStart => exact ⟨0, Nat.zero_le _, rfl, Own.nil _ _ _ _ _, Out.refl _ w⟩
  case round =>
    obtain ⟨k, hk, rfl, hown, hext⟩ := hrel
    by_cases hlt : k < l.length
    · obtain ⟨b1, o1, u1, v1, rfl, -, c0, c1, c2, hu, hv⟩ := (Hx.out.ext hext).op k hlt
      obtain ⟨U, N1, n1, rfl⟩ := hu.form0
      obtain ⟨V, N2, n2, rfl⟩ := hv.form0
      have hsz := hext.size
      have hown' := hown.ext (Ext.alloc1 wr (.cells #[byteV l[k].kind, .slice U N1 n1, .slice V N2 n2] 112))
      have hu' := Lib.hid (hu.alloc (.cells #[byteV l[k].kind, .slice U N1 n1, .slice V N2 n2] 112)).drew
      have hv' := Lib.hid (hv.alloc (.cells #[byteV l[k].kind, .slice U N1 n1, .slice V N2 n2] 112)).drew
      obtain ⟨z0, z1, z2, -⟩ := cells3 (blk_new wr (.cells #[byteV l[k].kind, .slice U N1 n1, .slice V N2 n2] 112))
      have Own' := Lib.hid hown'
      have Lt := Lib.hid hown'.lt
      have Sz := Lib.hid (le_alloc hsz (.cells #[byteV l[k].kind, .slice U N1 n1, .slice V N2 n2] 112))
      have Ne := Lib.hid hown.ne_new
      have Hext := Lib.hid hext
      clear hext hown hown' hu hv
      go_wp2
      go_region_held3 (fun w' => w'.cell? ⟨wr.heap.size, 0, none⟩ = some (byteV l[k].kind) ∧ w'.cell? ⟨wr.heap.size, 1, none⟩ = some (.slice U N1 n1) ∧ w'.cell? ⟨wr.heap.size, 2, none⟩ = some (.slice V N2 n2)) (first | go_keep | (refine ⟨?_, ?_, ?_⟩ <;> exact hx1.cell (by assumption) (fun f => f)) | (refine ⟨?_, ?_, ?_⟩ <;> exact hx2.cell (hx1.cell (by assumption) (fun f => f)) (fun f => f)) | (refine ⟨?_, ?_, ?_⟩ <;> exact g2.cell (cell_alloc (hx2.cell (hx1.cell (by assumption) (fun f => f)) (fun f => f)) _) Ne.out))
        (first
          | (have hh := mk1; clear hh; go_at_call 80; refine (r1_copy _ hu'.out).mono ?_; rintro x w1 ⟨x1, rfl, hx1, hb1⟩; obtain ⟨A1, k1, m1, rfl⟩ := hb1.form0; have hv1 := Lib.hid (hv'.out.ext hx1); clear mk1)
          | (go_at_call 80; refine (r1_copy _ hv1.out).mono ?_; rintro x w2 ⟨x2, rfl, hx2, hb2⟩; obtain ⟨A2, k2, m2, rfl⟩ := hb2.form0)
          | (refine step_append_one (by rfl) (.tmp 12) (.tmp 22) 101 (by rfl) fits112 ((((Own'.out.ext (Out.refl _ _).drew).ext hx1).ext hx2).ext (Ext.alloc1 _ _)) (by rfl) (le_alloc (Nat.le_trans Sz.out (Nat.le_trans hx1.size hx2.size)) _) (blk_new _ _) (by rfl) l[k] (op_rep (e := l[k]) ((hb1.ext hx2).alloc _) (hb2.alloc _) (fun b hb _ => fresh_ok Sz.out Lt.out hb) (fun b hb _ => fresh_ok Sz.out Lt.out (Nat.le_trans hx1.size hb))) (room_take hl (by decide)) (by decide) ?_; intro v' w' g1 g2 g3))
      go_wp2
      go_roundw
      case rel => exact ⟨k + 1, by omega, by go_num, by rw [List.take_succ_eq_append_getElem hlt]; exact g1, Out.own ((((Hext.out.alloc _).drew.ext hx1).ext hx2).alloc _) g2 (fun k h => (Lt.out k h).1) (Nat.le_refl _)⟩
      case measure => simp [intOf]; omega
    · go_wp2
      go_ret
      have hkl : l.take k = l := List.take_of_length_le (by omega)
      rw [hkl] at hown
      exact ⟨_, rfl, hext, hown⟩

theorem beq_self_list (l : List UInt8) : (l == l) = true := by simp

set_option maxRecDepth 100000 in
set_option maxHeartbeats 4000000 in
theorem r4_sameEq (w : World) {F G : Nat → Prop} {x y : Value} (l : List OpE) (hx : Sl opC w F x l) (hy : Sl opC w G y l) :
    Calls Try.prog 136 #[x, y] w fun e w' => e = .returned (.bool true) ∧ Ext w w' := by
  obtain ⟨A, cap, rfl, h1, h2, h3, h4⟩ := hx.form
  obtain ⟨B, cap', rfl, g1, g2, g3, g4⟩ := hy.form
  have h3 : l.length ≤ 140737488355328 := h3
  have Hx := Lib.hid hx
  have Hy := Lib.hid hy
  clear h1 h2 h4 g1 g2 g3 g4 hx hy
  obtain ⟨mk1, -⟩ : ∃ x : Nat, x = 0 := ⟨0, rfl⟩
  go_enter Try.func136, Try.ntmps136
  go_wp2
  go_loopw [13] (fun i wr => ∃ k : Nat, k ≤ l.length ∧ i = .int .i64 k ∧ Ext w wr) (fun i _ => l.length - (intOf i).toNat)
  case atStart => exact ⟨0, Nat.zero_le _, rfl, Out.refl _ w⟩
  case round =>
    obtain ⟨k, hk, rfl, hext⟩ := hrel
    by_cases hlt : k < l.length
    · obtain ⟨b1, o1, u1, v1, rfl, -, c0, c1, c2, hu, hv⟩ := (Hx.out.ext hext).op k hlt
      obtain ⟨b2, o2, u2, v2, rfl, -, d0, d1, d2, hu', hv'⟩ := (Hy.out.ext hext).op k hlt
      obtain ⟨U1, N1, n1, rfl⟩ := hu.form0
      obtain ⟨V1, N2, n2, rfl⟩ := hv.form0
      obtain ⟨U2, N3, n3, rfl⟩ := hu'.form0
      obtain ⟨V2, N4, n4, rfl⟩ := hv'.form0
      have HK := Lib.hid (r1_same _ hu.drew hu'.drew)
      have HV := Lib.hid (r1_same _ hv.drew hv'.drew)
      rw [beq_self_list] at HK HV
      have Hext := Lib.hid hext
      clear hext hu hv hu' hv'
      go_wp2
      go_region_held3 (fun w' => (w'.cell? ⟨b1, o1 + k * 3, none⟩ = some (byteV l[k].kind) ∧ w'.cell? ⟨b1, o1 + k * 3 + 1, none⟩ = some (.slice U1 N1 n1) ∧ w'.cell? ⟨b1, o1 + k * 3 + 2, none⟩ = some (.slice V1 N2 n2)) ∧ (w'.cell? ⟨b2, o2 + k * 3, none⟩ = some (byteV l[k].kind) ∧ w'.cell? ⟨b2, o2 + k * 3 + 1, none⟩ = some (.slice U2 N3 n3) ∧ w'.cell? ⟨b2, o2 + k * 3 + 2, none⟩ = some (.slice V2 N4 n4))) (first | go_keep)
        (first
          | (have hh := mk1; clear hh; go_at_call 74; refine HK.out.mono ?_; rintro x w1 ⟨rfl, rfl⟩; clear mk1)
          | (go_at_call 74; refine HV.out.mono ?_; rintro x w1 ⟨rfl, rfl⟩))
      go_wp2
      go_roundw
      case rel => exact ⟨k + 1, by omega, by go_num, Hext.out.drew⟩
      case measure => simp [intOf]; omega
    · go_wp2
      go_ret
      exact ⟨rfl, hext⟩
end Go.Proofs.Yteaanagljmcidaa
