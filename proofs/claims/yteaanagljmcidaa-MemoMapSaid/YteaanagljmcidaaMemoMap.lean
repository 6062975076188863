/- law10: MemoMap. -/
import Derived.Test.YteaanagljmcidaaRunR
import Derived.Test.YteaanagljmcidaaR4All
namespace Go.Proofs.Yteaanagljmcidaa
open Go.RowKit

attribute [local go_sem ↓] Go.wp_at_zero Go.wp_at_succ

theorem getP_has (m : List PairE) (key : List UInt8) : (getP m key).2 = true ↔ ∃ p ∈ m, p.key = key := by
  unfold getP
  cases h : m.find? (fun p => p.key == key) with
  | none =>
    simp only [Bool.false_eq_true, false_iff]
    rintro ⟨p, hp, he⟩
    exact List.find?_eq_none.1 h p hp (by simpa using he)
  | some p =>
    simp only [true_iff]
    exact ⟨p, List.mem_of_find?_eq_some h, by simpa using List.find?_some h⟩
theorem getX_two (x : XL) (key : List UInt8) (q : Nat) : (getX x key q).2 = 0 ∨ (getX x key q).2 = 1 ∨ (getX x key q).2 = 2 := by
  unfold getX tellX
  cases x.reverse.find? (qualX key q) with
  | none => simp
  | some p => simp only; split <;> simp
/-- What the map has of an op's key, and what the memo tells of it. -/
theorem map_tells {x : XL} (h : GoodX x) {o : OpE} (ho : o ∈ opsX x) : ∃ u v b st, getP (applyAllE [] (opsX x)) o.key = (u, b) ∧ getX x o.key 72057594037927935 = (v, st) ∧ (b = true ∧ st = 1 ∨ b = false ∧ st = 2) := by
  obtain ⟨p, hp, rfl⟩ := List.mem_map.1 ho
  have h1 := map_known h hp
  have h2 := map_has h p.1.key
  rw [← getP_has] at h2
  have h3 := getX_two x p.1.key 72057594037927935
  refine ⟨(getP (applyAllE [] (opsX x)) p.1.key).1, (getX x p.1.key 72057594037927935).1, (getP (applyAllE [] (opsX x)) p.1.key).2, (getX x p.1.key 72057594037927935).2, rfl, rfl, ?_⟩
  cases hb : (getP (applyAllE [] (opsX x)) p.1.key).2 with
  | true => exact .inl ⟨rfl, h2.1 hb⟩
  | false =>
    refine .inr ⟨rfl, ?_⟩
    rcases h3 with h3 | h3 | h3
    · exact absurd h3 h1
    · rw [h2.2 h3] at hb; cases hb
    · exact h3

set_option maxRecDepth 100000 in
set_option maxHeartbeats 8000000 in
theorem memoMap_walk (w : World) {F : Nat → Prop} {v : Value} (script : List StepE) (hv : Sl stepCA w F v script) : Calls Try.prog 16 #[v] w fun e w' => e = .returned (.bool true) ∧ Ext w w' := by
  obtain ⟨A, N, n, rfl⟩ := hv.form0
  have Hv := Lib.hid (hv.mono (G := fun b => b < w.heap.size) (fun b _ hb => hb) (.inl (by decide)))
  clear hv
  go_enter Try.func16, Try.ntmps16
  go_wp2_with (first
    | (go_at_call 69; refine (law10_awake _).mono ?_; rintro r w1 ⟨rfl, hx1⟩; have HX1 := Lib.hid hx1; have hz1 := hx1.size; clear hx1)
    | (go_at_call 70; refine (memo_new _).mono ?_; rintro r w2 ⟨M, rfl, hx2, hm2⟩; have HX2 := Lib.hid (HX1.out.ext hx2); have HM2 := Lib.hid hm2; have hz2 := hx2.size; clear hm2 hx2)
    | (go_at_call 71; refine (law10_run0 HM2.out script (Hv.out.ext HX2.out) (fun b hb => by omega) (by omega) _ rfl).mono ?_; rintro r w3 ⟨rfl, ho3, s, x, hran⟩; have HRan := Lib.hid hran; have HX3 : Hid (Ext w w3) := Lib.hid (HX2.out.then ho3 (fun b hb h => by omega)); obtain ⟨FO, vo, vs, hrx, -⟩ := hran.rx; obtain ⟨r0, r1, rf⟩ := cells2 hrx.blk; have HBR := Lib.hid hrx.blk; have hxl := hran.len; obtain ⟨lo, hlo⟩ : ∃ lo, opsX x = lo := ⟨_, rfl⟩; have Hlo := Lib.hid hlo; have hll : lo.length ≤ 1920 := (by rw [← hlo]; unfold opsX; rw [List.length_map]; exact hxl); have hops := hrx.ops; rw [show x.map (·.1) = lo from hlo] at hops; obtain ⟨O, oc, rfl, -⟩ := hops.form; obtain ⟨S3, sn3, sc3, rfl⟩ := hrx.seqs.form0; have HO := Lib.hid (hops.opS (by omega)); clear hran ho3 hrx hops hlo hxl)
    | (go_at_call 72; refine (r4_applyAll _ lo HO.out (by omega)).mono ?_; rintro r w4 ⟨u4, rfl, hx4, hm4⟩; have HX4 := Lib.hid hx4; obtain ⟨m, hm⟩ : ∃ m, applyAllE [] lo = m := ⟨_, rfl⟩; rw [hm] at hm4; have Hm := Lib.hid hm; have HM4 := Lib.hid hm4; obtain ⟨M4, mc4, rfl, -, -, hmb, -⟩ := hm4.form; have hmb : m.length ≤ 140737488355328 := hmb; clear hx4 hm4 hm))
  have HG := Lib.hid fun key => get_rel HRan.out.rel HRan.out.good key 72057594037927935
  have HMap : Hid (∀ p ∈ m, getX x p.key 72057594037927935 = (p.val, 1)) := Lib.hid fun p hp => (mem_map HRan.out.good p).1 (by rw [Hlo.out, Hm.out]; exact hp)
  have HTell : Hid (∀ o ∈ lo, ∃ u v b st, getP m o.key = (u, b) ∧ getX x o.key 72057594037927935 = (v, st) ∧ (b = true ∧ st = 1 ∨ b = false ∧ st = 2)) := Lib.hid fun o ho => by
    have h := map_tells HRan.out.good (o := o) (by rw [Hlo.out]; exact ho)
    rw [Hlo.out, Hm.out] at h
    exact h
  go_loopw [33] (fun s33 wr => ∃ i : Nat, i ≤ m.length ∧ s33 = .int .i64 i ∧ Ext w4 wr) (fun s33 _ => m.length - (intOf s33).toNat)
  case atStart => exact ⟨0, Nat.zero_le _, rfl, Out.refl _ _⟩
  case round =>
    obtain ⟨wo, rfl⟩ : ∃ x : World, x = wr := ⟨_, rfl⟩
    obtain ⟨i, hi, rfl, hx⟩ := hrel
    have HX := Lib.hid hx
    clear hx
    by_cases hlt : i < m.length
    · obtain ⟨b1, o1, u1, v1, rfl, -, c0, c1, hu, hv⟩ := (HM4.out.ext HX.out).pair i hlt
      obtain ⟨U1, N1, n1, rfl⟩ := hu.form0
      obtain ⟨V1, K1, k1, rfl⟩ := hv.form0
      have x1 := Ext.alloc1 wo (.cells #[.slice U1 N1 n1, .slice V1 K1 k1] 107)
      have hz := blk_new wo (.cells #[.slice U1 N1 n1, .slice V1 K1 k1] 107)
      obtain ⟨z0, z1, -⟩ := cells2 hz
      have HZ := Lib.hid hz
      have Hu := Lib.hid (hu.ext x1)
      have Hv1 := Lib.hid (hv.ext x1)
      have X1 := Lib.hid (HX.out.ext x1)
      have Hg := Lib.hid ((HG.out m[i].key).trans (HMap.out _ (List.getElem_mem hlt)))
      clear hu hv x1 hz
      generalize m[i] = p at *
      obtain ⟨pk, pv⟩ := p
      dsimp only at *
      go_wp2_with (first
        | (go_at_call 73; refine (memo_getI ((HRan.out.ext HX4.out).ext X1.out).mm pk Hu.out 72057594037927935 72057594037927935 rfl Hg.out).mono ?_; rintro r w6 ⟨x6, rfl, hx6, hb6⟩; obtain ⟨Z6, n6, c6, rfl⟩ := hb6.form0; have HX6 := Lib.hid hx6; have HB6 := Lib.hid hb6; obtain ⟨q0, q1, -⟩ := cells2 (hx6.blk HZ.out (fun f => f)); clear hx6 hb6)
        | (go_at_call 74; refine (r1_same _ HB6.out (Hv1.out.ext HX6.out)).mono ?_; rw [beq_self_list]; rintro r w7 ⟨rfl, rfl⟩))
      go_roundw
      case rel => exact ⟨i + 1, by omega, by go_num, X1.out.ext HX6.out⟩
      case measure => simp [intOf]; omega
    · have HW : Hid (Ext w wo) := Lib.hid ((HX3.out.ext HX4.out).ext HX.out)
      have HRo := Lib.hid ((HRan.out.ext HX4.out).ext HX.out)
      have HOo := Lib.hid ((HO.out.ext HX4.out).ext HX.out)
      have HMo := Lib.hid (HM4.out.ext HX.out)
      obtain ⟨e0, e1, ef⟩ := cells2 ((HX4.out.ext HX.out).blk HBR.out (fun f => f))
      go_wp2
      go_loopw [59] (fun s59 wr => ∃ i : Nat, i ≤ lo.length ∧ s59 = .int .i64 i ∧ Ext wo wr) (fun s59 _ => lo.length - (intOf s59).toNat)
      case atStart => exact ⟨0, Nat.zero_le _, rfl, Out.refl _ _⟩
      case round =>
        obtain ⟨wp, rfl⟩ : ∃ x : World, x = wr := ⟨_, rfl⟩
        obtain ⟨j, hj, rfl, hxj⟩ := hrel
        have HXj := Lib.hid hxj
        clear hxj
        by_cases hltj : j < lo.length
        · obtain ⟨b1, o1, u1, v1, rfl, -, c0, c1, c2, hu, hv⟩ := (HOo.out.ext HXj.out).op j hltj
          obtain ⟨U1, N1, n1, rfl⟩ := hu.form0
          obtain ⟨V1, K1, k1, rfl⟩ := hv.form0
          have x1 := Ext.alloc1 wp (.cells #[byteV lo[j].kind, .slice U1 N1 n1, .slice V1 K1 k1] 112)
          have hz := blk_new wp (.cells #[byteV lo[j].kind, .slice U1 N1 n1, .slice V1 K1 k1] 112)
          obtain ⟨z0, z1, z2, -⟩ := cells3 hz
          have HZ := Lib.hid hz
          have Hu := Lib.hid (hu.ext x1)
          have X1 := Lib.hid (HXj.out.ext x1)
          obtain ⟨u, v, b, st, t1, t2, t3⟩ := HTell.out lo[j] (List.getElem_mem hltj)
          have HP := r4_get (wp.alloc (.cells #[byteV lo[j].kind, .slice U1 N1 n1, .slice V1 K1 k1] 112)) m lo[j].key (HMo.out.ext X1.out) Hu.out
          rw [t1] at HP
          have HP := Lib.hid HP
          have Hg := Lib.hid ((HG.out lo[j].key).trans t2)
          clear hu hv x1 hz t1 t2
          generalize lo[j] = p at *
          obtain ⟨pd, pk, pv⟩ := p
          dsimp only at *
          rcases t3 with ⟨rfl, rfl⟩ | ⟨rfl, rfl⟩
          all_goals
            go_wp2_with (first
              | (go_at_call 75; refine HP.out.mono ?_; rintro r w5 ⟨x5, rfl, hx5, hb5⟩; obtain ⟨Z5, n5, c5, rfl⟩ := hb5.form0; have HX5 := Lib.hid hx5; obtain ⟨p0, p1, p2, -⟩ := cells3 (hx5.blk HZ.out (fun f => f)); clear hx5 hb5)
              | (go_at_call 73; refine (memo_getI ((HRo.out.ext X1.out).ext HX5.out).mm pk (Hu.out.ext HX5.out) 72057594037927935 72057594037927935 rfl Hg.out).mono ?_; rintro r w6 ⟨x6, rfl, hx6, hb6⟩; obtain ⟨Z6, n6, c6, rfl⟩ := hb6.form0; have HX6 := Lib.hid (HX5.out.ext hx6); clear hx6 hb6))
            go_roundw
          case rel => exact ⟨j + 1, by omega, by go_num, X1.out.ext HX6.out⟩
          case measure => simp [intOf]; omega
          case rel => exact ⟨j + 1, by omega, by go_num, X1.out.ext HX6.out⟩
          case measure => simp [intOf]; omega
        · go_wp2
          go_ret
          exact ⟨rfl, HW.out.ext HXj.out⟩
end Go.Proofs.Yteaanagljmcidaa
