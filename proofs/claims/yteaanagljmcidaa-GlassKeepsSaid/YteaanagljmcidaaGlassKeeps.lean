/- law15: GlassKeeps. -/
import Derived.Test.YteaanagljmcidaaLaw15B
import Derived.Test.YteaanagljmcidaaGlKeepRef
namespace Go.Proofs.Yteaanagljmcidaa
open Go.RowKit

attribute [local go_sem ↓] Go.wp_at_zero Go.wp_at_succ

theorem few_law (l : List SpanE) : ((lawS l).take 14).map cutS = lawS l := few_right l 14

set_option maxRecDepth 100000 in
set_option maxHeartbeats 8000000 in
theorem glassKeeps_walk (w : World) {F0 F1 F3 : Nat → Prop} {v0 v1 v3 : Value} (l0 : List Ent) (h0 : Sl entCA w F0 v0 l0) (l1 : List SpanE) (h1 : Sl spanCA w F1 v1 l1) (bottom : Bool) (l3 : List UInt64) (h3 : Sl u64CA w F3 v3 l3) :
    Calls Try.prog 14 #[v0, v1, .bool bottom, v3] w fun e w' => e = .returned (.bool true) ∧ Ext w w' := by
  obtain ⟨A0, n0, c0, rfl⟩ := h0.form0
  obtain ⟨A1, n1, c1, rfl⟩ := h1.form0
  obtain ⟨k, hk⟩ : ∃ k, k = min l3.length 8 := ⟨_, rfl⟩
  obtain ⟨Aq, cq, rfl, hcq, -, hl3, -⟩ := h3.form
  have hl3 : l3.length ≤ 9223372036854775807 := hl3
  have HQ := Lib.hid (u64_ofA h3 k (by omega) (by omega))
  have H0 := Lib.hid h0
  have H1 := Lib.hid h1
  have hk0 : (0 : Int) ≤ (k : Int) := by omega
  have hk1 : (k : Int) ≤ (cq : Int) := by omega
  have hk8 : k ≤ 8 := by omega
  have Hk := Lib.hid hk
  clear h0 h1 h3 hk
  go_enter Try.func14, Try.ntmps14
  go_upto_region 4 with (first
    | (go_at_call 61; refine (law15_awake _).mono ?_; rintro r w1 ⟨rfl, hx1⟩; have HX1 := Lib.hid hx1; have HA0 := Lib.hid (H0.out.ext hx1); have HB0 := Lib.hid (H1.out.ext hx1); have hz1 := hx1.size; clear hx1)
    | (go_at_call 59; refine (r3_few _ l0 HA0.out 30 (by decide)).mono ?_; rintro r w2 ⟨v2, rfl, hx2, hs2⟩; obtain ⟨A2, n2, c2, rfl⟩ := hs2.form0; have HX2 := Lib.hid (HX1.out.ext hx2); have HS2 := Lib.hid hs2; have HB2 := Lib.hid (HB0.out.ext hx2); have hz2 := hx2.size; clear hx2 hs2)
    | (go_at_call 58; refine (r12_sort _ _ HS2.out (by rw [List.length_map, List.length_take]; omega)).mono ?_; rintro r w3 ⟨v3, rfl, hx3, hs3⟩; obtain ⟨A3, n3, c3, rfl⟩ := hs3.form0; have HX3 := Lib.hid (HX2.out.ext hx3); have hz3 := hx3.size; have HS3 := Lib.hid (hs3.mono (G := fun b => b < w3.heap.size) (fun b _ hl => hl) (.inl (by decide))); have HB3 := Lib.hid (HB2.out.ext hx3); clear hx3 hs3)
    | (go_at_call 63; refine (r9_few _ l1 HB3.out 14 (by decide)).mono ?_; rintro r w4 ⟨v4, rfl, hx4, ho4⟩; have hs4 := ho4.sl (G := fun b => b < w4.heap.size) (by decide) (by show _ ≤ 140737488355328; rw [List.length_map, List.length_take]; omega) (fun b _ hl => hl) (fun b _ hl => hl); obtain ⟨A4, n4, c4, rfl⟩ := hs4.form0; have HX4 := Lib.hid (HX3.out.ext hx4); have hz4 := hx4.size; have HE4 := Lib.hid (HS3.out.ext hx4); have HS4 := Lib.hid hs4; clear hx4 ho4 hs4)
    | (go_at_call 62; refine (r9_right _ _ HS4.out (fun _ h => h) (by rw [List.length_map, List.length_take]; omega)).mono ?_; rintro r w5 ⟨v5, rfl, hx5, hs5⟩; obtain ⟨A5, n5, c5, rfl⟩ := hs5.form0; have HX5 := Lib.hid (HX4.out.ext hx5); have hz5 := hx5.size; have HE5 := Lib.hid ((HE4.out.ext hx5).mono (G := fun b => b < w5.heap.size) (fun b _ hl => hl) (.inl (by decide))); have HT5 := Lib.hid (hs5.mono (G := fun b => b < w5.heap.size) (fun b _ hl => hl) (.inl (by decide))); clear hx5 hs5))
  go_cut [3] (fun s3 wx => s3 = .slice Aq k cq ∧ wx = w5)
  case first =>
    by_cases h8 : l3.length ≤ 8
    · have h8i : (l3.length : Int) ≤ 8 := by omega
      have Hk2 := Lib.hid (Hk.out.trans (Nat.min_eq_left h8))
      clear h8
      go_wp2
      go_meet
      exact ⟨by rw [Hk2.out], rfl⟩
    · have h8i : ¬ (l3.length : Int) ≤ 8 := by omega
      have h8j : (8 : Int) ≤ (cq : Int) := by omega
      have Hk2 := Lib.hid (Hk.out.trans (Nat.min_eq_right (by omega)))
      clear h8
      go_wp2
      go_meet
      exact ⟨by rw [Hk2.out], rfl⟩
  case rest =>
    obtain ⟨rfl, rfl⟩ := hcut
    go_wp2_with (first
      | (go_at_call 38; refine (r3_twins _ (lawE l0) HE5.out (by have := lawE_len l0; omega)).mono ?_; rintro r w6 ⟨v6, rfl, hx6, hs6⟩; obtain ⟨A6, n6, c6, rfl⟩ := hs6.form0; have HX6 := Lib.hid (HX5.out.ext hx6); have HS6 := Lib.hid (hs6.mono (G := fun b => b < w6.heap.size) (fun b _ hl => hl) (.inl (by decide))); have HE6 := Lib.hid (HE5.out.ext hx6); have HT6 := Lib.hid (HT5.out.ext hx6); have hz6 := hx6.size; clear hx6 hs6)
      | (go_at_call 63; have hfw := r9_few w6 (lawS l1) (sl_spanA HT6.out) 14 (by decide); rw [few_law] at hfw; refine hfw.mono ?_; rintro r w7 ⟨v7, rfl, hx7, ho7⟩; have hs7 := ho7.sl (G := fun b => b < w7.heap.size) (by decide) (by show _ ≤ 140737488355328; have := lawS_len l1; omega) (fun b _ hl => hl) (fun b _ hl => hl); obtain ⟨A7, n7, c7, rfl⟩ := hs7.form0; have HX7 := Lib.hid (HX6.out.ext hx7); have HS7 := Lib.hid hs7; have HE7 := Lib.hid (HE6.out.ext hx7); have HT7 := Lib.hid (HT6.out.ext hx7); have HV7 := Lib.hid (HS6.out.ext hx7); have hz7 := hx7.size; clear hfw hx7 ho7 hs7)
      | (go_at_call 64; have hkp := gl_keep w7 (lawE l0) (lawS l1) (l3.take k) bottom HV7.out HS7.out (HQ.out.ext HX7.out) (fun b hb => by omega) (lawE_sorted l0) (lawS_ok l1) (by have := lawE_len l0; omega) (by have := lawS_len l1; omega) (by rw [List.length_take]; omega); obtain ⟨K, hK⟩ : ∃ K, keepE (lawE l0) (lawS l1) bottom ((l3.take k ++ [maxSeq]).map (·.toNat)) = K := ⟨_, rfl⟩; obtain ⟨T, hT⟩ : ∃ T, leftE K (lawS l1) bottom = T := ⟨_, rfl⟩; rw [hK, hT] at hkp; have HK := Lib.hid hK; have HTT := Lib.hid hT; clear hK hT; refine hkp.mono ?_; rintro r w8 ⟨v8, u8, rfl, hx8, hs8, ht8⟩; obtain ⟨A8, n8, c8, rfl⟩ := hs8.form0; obtain ⟨B8, m8, d8, rfl⟩ := ht8.form0; have HX8 := Lib.hid (HX7.out.ext hx8); have HS8 := Lib.hid hs8; have HT8 := Lib.hid ht8; have hz8 := hx8.size; have HE8 := Lib.hid (HE7.out.ext hx8); have HU8 := Lib.hid (HT7.out.ext hx8); clear hkp hx8 hs8 ht8)
      | (go_at_call 65; have hkr := r15_keep w8 (lawE l0) (lawS l1) (l3.take k) bottom HE8.out HU8.out (HQ.out.ext HX8.out) (fun b hb => by omega) (fun b hb => by omega) (lawE_sorted l0) (by have := lawE_len l0; omega) (by have := lawS_len l1; omega) (by rw [List.length_take]; omega); rw [HK.out, HTT.out] at hkr; refine hkr.mono ?_; rintro r w9 ⟨v9, u9, rfl, hx9, hs9, ht9⟩; obtain ⟨A9, n9, c9, rfl⟩ := hs9.form0; obtain ⟨B9, m9, d9, rfl⟩ := ht9.form0; have HX9 := Lib.hid (HX8.out.ext hx9); have HSA := Lib.hid (r3_sameEq w9 K (HS8.out.ext hx9) hs9); have HT9 := Lib.hid (HT8.out.ext hx9); have HU9 := Lib.hid ht9; clear hkr hx9 hs9 ht9)
      | (go_at_call 32; refine HSA.out.mono ?_; rintro r wa ⟨rfl, hxa⟩; have HXa := Lib.hid (HX9.out.ext hxa); have HSB := Lib.hid (r9_sameEq wa T (HT9.out.ext hxa) (HU9.out.ext hxa)); clear hxa)
      | (go_at_call 66; refine HSB.out.mono ?_; rintro r wb ⟨rfl, hxb⟩; have HXb := Lib.hid (HXa.out.ext hxb); clear hxb))
    go_ret
    exact ⟨(by simp), HXb.out⟩
end Go.Proofs.Yteaanagljmcidaa
