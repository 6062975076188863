/- law10: MemoOlder. -/
import Derived.Test.YteaanagljmcidaaRunR
namespace Go.Proofs.Yteaanagljmcidaa
open Go.RowKit

attribute [local go_sem ↓] Go.wp_at_zero Go.wp_at_succ

theorem back_range {n last : Nat} (h : last ≠ 0) : ∃ r : Nat, r < last ∧ (n : Int) % (last : Int) = (r : Int) := ⟨n % last, Nat.mod_lt _ (by omega), by omega⟩

set_option maxRecDepth 100000 in
set_option maxHeartbeats 4000000 in
theorem memoOlder_walk (w : World) {F G H : Nat → Prop} {v u x : Value} (script : List StepE) (hv : Sl stepCA w F v script) (o : OpE) (hu : BsA w G u o.key) (hx : BsA w H x o.val) (back : UInt64) : Calls Try.prog 21 #[v, .agg #[byteV o.kind, u, x], u64V back] w fun e w' => e = .returned (.bool true) ∧ Ext w w' := by
  obtain ⟨A, N, n, rfl⟩ := hv.form0
  obtain ⟨U, N1, n1, rfl⟩ := hu.form0
  obtain ⟨X, N2, n2, rfl⟩ := hx.form0
  have x1 := Ext.alloc1 w (.cells #[byteV o.kind, .slice U N1 n1, .slice X N2 n2] 112)
  have hz := blk_new w (.cells #[byteV o.kind, .slice U N1 n1, .slice X N2 n2] 112)
  obtain ⟨z0, z1, z2, -⟩ := cells3 hz
  have HZ := Lib.hid hz
  have X1 := Lib.hid x1
  have Hv := Lib.hid (hv.mono (G := fun b => b < w.heap.size) (fun b _ hb => hb) (.inl (by decide)))
  have Hu := Lib.hid ((hu.mono (G := fun b => b < w.heap.size) (fun b _ hb => hb) (.inl (by decide))).ext x1)
  have Hx := Lib.hid ((hx.mono (G := fun b => b < w.heap.size) (fun b _ hb => hb) (.inl (by decide))).ext x1)
  clear hv hu hx x1 hz
  obtain ⟨mk1, -⟩ : ∃ x : Nat, x = 0 := ⟨0, rfl⟩
  go_enter Try.func21, Try.ntmps21
  go_upto_region 8 with (first
    | (go_at_call 69; refine (law10_awake _).mono ?_; rintro r w1 ⟨rfl, hx1⟩; have HX1 := Lib.hid (X1.out.ext hx1); have HZ1 := Lib.hid (hx1.blk HZ.out (fun f => f)); have Hu1 := Lib.hid (Hu.out.ext hx1); have Hx1 := Lib.hid (Hx.out.ext hx1); have hz1 := hx1.size; simp only [World.size_alloc] at hz1; clear hx1)
    | (go_at_call 70; refine (memo_new _).mono ?_; rintro r w2 ⟨M, rfl, hx2, hm2⟩; have HX2 := Lib.hid (HX1.out.ext hx2); have HX12 := Lib.hid hx2; have HM2 := Lib.hid hm2; have hz2 := hx2.size; clear hm2 hx2)
    | (go_at_call 71; refine (law10_run0 HM2.out script (Hv.out.ext HX2.out) (fun b hb => by omega) (by omega) _ rfl).mono ?_; rintro r w3 ⟨rfl, ho3, s, xx, hran⟩; have HRan := Lib.hid hran; have HX3 : Hid (Ext w w3) := Lib.hid (HX2.out.then ho3 (fun b hb h => by omega)); have HX13 : Hid (Ext w1 w3) := Lib.hid (HX12.out.then ho3 (fun b hb h => by omega)); obtain ⟨y0, y1, y2, -⟩ := cells3 (HX13.out.blk HZ1.out (fun f => f)); clear hran ho3)
    | (go_at_call 83; refine (r4_few _ [o] (ops1A (Hu1.out.ext HX13.out) (Hx1.out.ext HX13.out) _ rfl) 1 (by decide)).mono ?_; rintro e w4 ⟨x4, rfl, hx4, hl4⟩; have HX34 := Lib.hid ((Ext.alloc1 w3 (.cells #[byteV o.kind, .slice U N1 n1, .slice X N2 n2] 112)).trans hx4); have HL4 : Hid (Sl opC w4 (fun b => w3.heap.size ≤ b ∧ b < w4.heap.size) x4 [cutO o]) := Lib.hid (hl4.sl (by decide) (by show 1 ≤ 140737488355328; decide) (fun b hb hlt => ⟨by simp only [World.size_alloc] at hb; omega, hlt⟩) (fun b hb hlt => ⟨by simp only [World.size_alloc] at hb; omega, hlt⟩)); obtain ⟨A4, c4, rfl, -⟩ := HL4.out.form; have HR4 := Lib.hid (HRan.out.ext HX34.out); clear hl4 hx4)
    | (go_at_call 76; refine (memo_lastE HR4.out.mm rfl).mono ?_; rintro r w5 ⟨rfl, rfl⟩)
    | (go_at_call 84; refine (memo_sizeE HR4.out.mm rfl).mono ?_; rintro r w6 ⟨rfl, rfl⟩))
  obtain ⟨b4, o4, u4, v4, hA4, -, c0, c1, c2, hu4, hv4⟩ := HL4.out.op 0 (by simp)
  subst hA4
  simp only [Nat.zero_mul, Nat.add_zero, List.getElem_cons_zero] at c0 c1 c2 hu4 hv4
  obtain ⟨U4, N4, n4, rfl⟩ := hu4.form0
  obtain ⟨V4, K4, k4, rfl⟩ := hv4.form0
  have hmax : s.last ≤ 72057594037927935 := by rw [HR4.out.rel.last]; exact HR4.out.good.last_le
  have HX4 := Lib.hid (HX3.out.ext HX34.out)
  have HC := Lib.hid (r4_checkOp w4 (cutO o) hu4 hv4)
  have Hu4 := Lib.hid hu4
  have Hv4 := Lib.hid hv4
  generalize hco : cutO o = co at *
  clear hco hu4 hv4
  have HLst : Hid (s.last = s.last) := Lib.hid rfl
  obtain ⟨la, hla⟩ : ∃ la, s.last = la := ⟨_, rfl⟩
  obtain ⟨sz, hsz⟩ : ∃ sz, s.sz = sz := ⟨_, rfl⟩
  have Hla := Lib.hid hla
  have Hsz := Lib.hid hsz
  rw [hla] at hmax
  rw [hla, hsz]
  clear hla hsz HLst
  by_cases h0 : la = 0
  · subst h0
    go_wp2
    go_ret
    exact ⟨rfl, HX4.out⟩
  obtain ⟨c, hc⟩ : ∃ c, ocheck co = c := ⟨_, rfl⟩
  rw [hc] at HC
  by_cases hc0 : c = 0
  rotate_left
  · have hcb : (c != 0) = true := by simpa using hc0
    have h0b : ((la : Int) == 0) = false := by rw [beq_eq_false_iff_ne]; omega
    clear hc hc0 h0
    go_wp2_with (go_at_call 85; refine HC.out.mono ?_; rintro r w5 ⟨rfl, hx5⟩)
    go_ret
    exact ⟨rfl, HX4.out.ext hx5⟩
  subst hc0
  obtain ⟨r, hr, hrem⟩ := back_range (n := back.toNat) h0
  have h0b : ((la : Int) == 0) = false := by rw [beq_eq_false_iff_ne]; omega
  have hsub : (0 : Int) ≤ la - r := by omega
  have HD := Lib.hid fun w' (hw : Ext w4 w') => memo_doNo (HR4.out.ext hw).mm co (Hu4.out.ext hw) (Hv4.out.ext hw) (la - r) 1 (by rw [Hla.out, doR1 hc (by omega) (by omega) hmax]; decide)
  have Hd1 := Lib.hid (doR1 (q := la - r) hc (by omega) (by omega) hmax)
  have Hb1 := Lib.hid (batR1 (q := la - r) hc (by omega) (by omega) hmax)
  rw [Hla.out, Hd1.out] at HD
  have hcast : ((la - r : Nat) : Int) = (la : Int) - r := by omega
  rw [hcast] at HD
  have HBs : Hid (batS s [co] (la - r) [] = s) := Lib.hid (by unfold batS; rw [Hla.out, Hb1.out]; exact if_neg (by decide))
  have hB := fun w' (hw : Ext w4 w') => memo_batch (Mm.ext (Mm.ext HRan.out.mm HX34.out) hw) [co] [] ((HL4.out).ext hw) (Sl.nil _ _ (fun _ => False)) (fun b hb => Nat.lt_of_lt_of_le hb.2 hw.size) (fun b hb h => by omega) (fun b hb => hb.elim) (la - r) HR4.out.ok (by decide)
  rw [Hla.out, Hb1.out, HBs.out, hcast] at hB
  have HB := Lib.hid hB
  clear hB
  clear hc
  go_wp2_with (first
    | (go_at_call 85; refine HC.out.mono ?_; rintro r w5 ⟨rfl, hx5⟩; have HX5 := Lib.hid hx5; have d0 := hx5.cell c0 (fun f => f); have d1 := hx5.cell c1 (fun f => f); have d2 := hx5.cell c2 (fun f => f); clear hx5)
    | (go_at_call 86; refine (HD.out _ HX5.out).mono ?_; rintro r w6 ⟨rfl, hx6⟩; have HX6 := Lib.hid (HX5.out.ext hx6); clear hx6)
    | (go_at_call 87; refine (HB.out _ HX6.out).mono ?_; rintro r w7 ⟨rfl, ho7, hm7⟩; have HX7 : Hid (Ext w w7) := Lib.hid ((HX4.out.ext HX6.out).then ho7 (fun b hb h => by omega)); have HM7 := Lib.hid hm7; clear ho7 hm7)
    | (go_at_call 76; refine (memo_lastE HM7.out Hla.out).mono ?_; rintro r w8 ⟨rfl, rfl⟩)
    | (go_at_call 84; refine (memo_sizeE HM7.out Hsz.out).mono ?_; rintro r w9 ⟨rfl, rfl⟩))
  go_ret
  exact ⟨by simp, HX7.out⟩
end Go.Proofs.Yteaanagljmcidaa
