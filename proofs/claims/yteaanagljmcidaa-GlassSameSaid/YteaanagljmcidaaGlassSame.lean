/- law15: GlassSame. -/
import Derived.Test.YteaanagljmcidaaLaw15B
import Derived.Test.YteaanagljmcidaaOwnOne
import Derived.Test.YteaanagljmcidaaR9
namespace Go.Proofs.Yteaanagljmcidaa
open Go.RowKit

attribute [local go_sem ↓] Go.wp_at_zero Go.wp_at_succ

set_option maxRecDepth 100000 in
set_option maxHeartbeats 8000000 in
theorem glassSame_walk (w : World) {F0 F1 F3 : Nat → Prop} {v0 v1 v3 : Value} (l0 : List Ent) (h0 : Sl entCA w F0 v0 l0) (l1 : List SpanE) (h1 : Sl spanCA w F1 v1 l1) (bottom : Bool) (l3 : List UInt64) (h3 : Sl u64CA w F3 v3 l3) :
    Calls Try.prog 18 #[v0, v1, .bool bottom, v3] w fun e w' => e = .returned (.bool true) ∧ Ext w w' := by
  obtain ⟨A0, n0, c0, rfl⟩ := h0.form0
  obtain ⟨A1, n1, c1, rfl⟩ := h1.form0
  obtain ⟨k, hk⟩ : ∃ k, k = min l3.length 8 := ⟨_, rfl⟩
  obtain ⟨Aq, cq, rfl, hcq, -, hl3, -⟩ := h3.form
  have hl3 : l3.length ≤ 9223372036854775807 := hl3
  have HQ := Lib.hid (u64_ofA h3 k (by omega) (by omega))
  have H0 := Lib.hid h0
  have H1 := Lib.hid h1
  have hk0 : (0 : Int) ≤ (k : Int) := by omega
  have hk1 : (k : Int) ≤ (cq : Int) := by omega
  have hk8 : k ≤ 8 := by omega
  have Hk := Lib.hid hk
  clear h0 h1 h3 hk
  go_enter Try.func18, Try.ntmps18
  go_upto_region 4 with (first
    | (go_at_call 61; refine (law15_awake _).mono ?_; rintro r w1 ⟨rfl, hx1⟩; have HX1 := Lib.hid hx1; have HA0 := Lib.hid (H0.out.ext hx1); have HB0 := Lib.hid (H1.out.ext hx1); have hz1 := hx1.size; clear hx1)
    | (go_at_call 59; refine (r3_few _ l0 HA0.out 30 (by decide)).mono ?_; rintro r w2 ⟨v2, rfl, hx2, hs2⟩; obtain ⟨A2, n2, c2, rfl⟩ := hs2.form0; have HX2 := Lib.hid (HX1.out.ext hx2); have HS2 := Lib.hid hs2; have HB2 := Lib.hid (HB0.out.ext hx2); have hz2 := hx2.size; clear hx2 hs2)
    | (go_at_call 58; refine (r12_sort _ _ HS2.out (by rw [List.length_map, List.length_take]; omega)).mono ?_; rintro r w3 ⟨v3, rfl, hx3, hs3⟩; obtain ⟨A3, n3, c3, rfl⟩ := hs3.form0; have HX3 := Lib.hid (HX2.out.ext hx3); have hz3 := hx3.size; have HS3 := Lib.hid (hs3.mono (G := fun b => b < w3.heap.size) (fun b _ hl => hl) (.inl (by decide))); have HB3 := Lib.hid (HB2.out.ext hx3); clear hx3 hs3)
    | (go_at_call 63; refine (r9_few _ l1 HB3.out 14 (by decide)).mono ?_; rintro r w4 ⟨v4, rfl, hx4, ho4⟩; have hs4 := ho4.sl (G := fun b => b < w4.heap.size) (by decide) (by show _ ≤ 140737488355328; rw [List.length_map, List.length_take]; omega) (fun b _ hl => hl) (fun b _ hl => hl); obtain ⟨A4, n4, c4, rfl⟩ := hs4.form0; have HX4 := Lib.hid (HX3.out.ext hx4); have hz4 := hx4.size; have HE4 := Lib.hid (HS3.out.ext hx4); have HS4 := Lib.hid hs4; clear hx4 ho4 hs4)
    | (go_at_call 62; refine (r9_right _ _ HS4.out (fun _ h => h) (by rw [List.length_map, List.length_take]; omega)).mono ?_; rintro r w5 ⟨v5, rfl, hx5, hs5⟩; obtain ⟨A5, n5, c5, rfl⟩ := hs5.form0; have HX5 := Lib.hid (HX4.out.ext hx5); have hz5 := hx5.size; have HE5 := Lib.hid ((HE4.out.ext hx5).mono (G := fun b => b < w5.heap.size) (fun b _ hl => hl) (.inl (by decide))); have HT5 := Lib.hid (hs5.mono (G := fun b => b < w5.heap.size) (fun b _ hl => hl) (.inl (by decide))); clear hx5 hs5))
  go_cut [3] (fun s3 wx => s3 = .slice Aq k cq ∧ wx = w5)
  case first =>
    by_cases h8 : l3.length ≤ 8
    · have h8i : (l3.length : Int) ≤ 8 := by omega
      have Hk2 := Lib.hid (Hk.out.trans (Nat.min_eq_left h8))
      clear h8
      go_wp2
      go_meet
      exact ⟨by rw [Hk2.out], rfl⟩
    · have h8i : ¬ (l3.length : Int) ≤ 8 := by omega
      have h8j : (8 : Int) ≤ (cq : Int) := by omega
      have Hk2 := Lib.hid (Hk.out.trans (Nat.min_eq_right (by omega)))
      clear h8
      go_wp2
      go_meet
      exact ⟨by rw [Hk2.out], rfl⟩
  case rest =>
    obtain ⟨rfl, rfl⟩ := hcut
    obtain ⟨K, hK⟩ : ∃ K, keepE (lawE l0) (lawS l1) bottom ((l3.take k ++ [maxSeq]).map (·.toNat)) = K := ⟨_, rfl⟩
    obtain ⟨T, hT⟩ : ∃ T, leftE K (lawS l1) bottom = T := ⟨_, rfl⟩
    obtain ⟨qs, hqs⟩ : ∃ qs, qs = [maxSeq] ++ l3.take k := ⟨_, rfl⟩
    have hql : qs.length ≤ 9 := by rw [hqs, List.length_append, List.length_take, List.length_singleton]; omega
    have HKs : Hid (SortedE K) := Lib.hid (by rw [← hK]; exact (lawE_sorted l0).sub keepE_sub)
    have HTs : Hid (∀ s ∈ T, scheck s = 0) := Lib.hid (by rw [← hT]; exact fun s hs => lawS_ok l1 s (leftE_sub s hs))
    have hKl : K.length ≤ 30 := by rw [← hK]; exact Nat.le_trans keepE_sub.length_le (lawE_len l0)
    have hTl : T.length ≤ 14 := by
      rw [← hT]
      unfold leftE
      split
      · exact Nat.le_trans (List.length_filter_le _ _) (lawS_len l1)
      · exact lawS_len l1
    have HKK : Hid (keepE K T bottom ((l3.take k ++ [maxSeq]).map (·.toNat)) = K) := Lib.hid (by rw [← hT, ← hK]; exact keep_keep (lawE_sorted l0))
    have HTK : Hid (leftE K T bottom = T) := Lib.hid (by rw [← hT]; exact left_left K)
    have Hsk : Hid (∀ q ∈ qs, seenE K T q.toNat = seenE (lawE l0) (lawS l1) q.toNat) := Lib.hid fun q hq => by
      rw [← hT, ← hK]
      refine seen_keep (lawE_sorted l0) (List.mem_map.2 ⟨q, ?_, rfl⟩)
      rw [hqs] at hq
      rcases List.mem_append.1 hq with h | h
      · exact List.mem_append_right _ h
      · exact List.mem_append_left _ h
    have Hqs := Lib.hid hqs
    clear hqs
    obtain ⟨mk1, -⟩ : ∃ x : Nat, x = 0 := ⟨0, rfl⟩
    go_wp2_with (first
      | (have hh := mk1; clear hh; go_at_call 64; have hkp := gl_keep _ (lawE l0) (lawS l1) (l3.take k) bottom HE5.out HT5.out (HQ.out.ext HX5.out) (fun b hb => by omega) (lawE_sorted l0) (lawS_ok l1) (by have := lawE_len l0; omega) (by have := lawS_len l1; omega) (by rw [List.length_take]; omega); rw [hK, hT] at hkp; have HK := Lib.hid hK; have HTT := Lib.hid hT; clear hK hT; refine hkp.mono ?_; rintro r w8 ⟨v8, u8, rfl, hx8, hs8, ht8⟩; obtain ⟨A8, n8, c8, rfl⟩ := hs8.form0; obtain ⟨B8, m8, d8, rfl⟩ := ht8.form0; have HX8 := Lib.hid (HX5.out.ext hx8); have hz8 := hx8.size; have HS8 := Lib.hid (hs8.mono (G := fun b => b < w8.heap.size) (fun b _ hl => hl) (.inl (by decide))); have HT8 := Lib.hid (ht8.mono (G := fun b => b < w8.heap.size) (fun b _ hl => hl) (.inl (by decide))); have HE8 := Lib.hid (HE5.out.ext hx8); have HU8 := Lib.hid (HT5.out.ext hx8); clear hkp hx8 hs8 ht8 mk1)
      | (at_builtin; refine wpList_append_sl rfl (.tmp 40) (.tmp 41) 83 rfl fits83G (own_oneG (B := w8.heap.size) (F := fun _ => True) (blk_new w8 _) (Nat.le_refl _) rfl maxSeq rfl) rfl (by simp) ((HQ.out.ext HX8.out).alloc _) rfl (fun i hi cs hc => hc) (by rw [List.length_take, List.length_singleton]; omega) (by decide) ?_; intro v9 w9 g1 g2 g3; rw [← Hqs.out] at g1; have hx9 := (Ext.alloc1 w8 _).then g2 (fun b hb e => by simp [Value.ownBlock] at e; omega); have hs9 := g1.sl (G := fun _ => True) (by decide) (by show _ ≤ 140737488355328; omega) (fun _ _ _ => trivial) (fun _ _ _ => trivial); obtain ⟨A9, c9, rfl, -⟩ := hs9.form; have HN9 := Lib.hid hs9; have HX9 := Lib.hid (HX8.out.ext hx9); have hz9 := hx9.size; have HE9 := Lib.hid (HE8.out.ext hx9); have HU9 := Lib.hid (HU8.out.ext hx9); have HS9 := Lib.hid (HS8.out.ext hx9); have HT9 := Lib.hid (HT8.out.ext hx9); clear g1 g2 g3 hx9 hs9))
    go_loopw [44] (fun s44 wr => ∃ i : Nat, i ≤ qs.length ∧ s44 = .int .i64 i ∧ Ext w9 wr) (fun s44 _ => qs.length - (intOf s44).toNat)
    case atStart => exact ⟨0, Nat.zero_le _, rfl, Out.refl _ _⟩
    case round =>
      obtain ⟨wo, rfl⟩ : ∃ x : World, x = wr := ⟨_, rfl⟩
      obtain ⟨i, hi, rfl, hx⟩ := hrel
      have HX := Lib.hid hx
      have hzx := hx.size
      clear hx
      by_cases hlt : i < qs.length
      · obtain ⟨bq, oq, hA, cqq⟩ := (HN9.out.ext HX.out).numG i hlt
        subst hA
        have hmem := List.getElem_mem hlt
        obtain ⟨q, hq⟩ : ∃ q, qs[i] = q := ⟨_, rfl⟩
        rw [hq] at cqq hmem
        obtain ⟨m, hm⟩ : ∃ m, seenE (lawE l0) (lawS l1) q.toNat = m := ⟨_, rfl⟩
        have hm2 := (Hsk.out q hmem).trans hm
        have hml : m.length ≤ 30 := by rw [← hm]; exact Nat.le_trans (seenE_length _ _ _) (lawE_len l0)
        clear hmem hq
        obtain ⟨mk2, -⟩ : ∃ x : Nat, x = 0 := ⟨0, rfl⟩
        go_wp2_with (first
          | (have hh := mk2; clear hh; go_at_call 78; refine (gl_newI _ (lawE l0) (lawS l1) (HE9.out.ext HX.out) (HU9.out.ext HX.out) (fun b hb => by omega) (fun b hb => by omega) (lawE_sorted l0) (lawS_ok l1) (by have := lawE_len l0; omega) (by have := lawS_len l1; omega) _ q.toNat rfl hm).mono ?_; rintro r wa ⟨Ga, va, rfl, hxa, hga⟩; have HXa := Lib.hid (HX.out.ext hxa); have HGa := Lib.hid hga; have hza := hxa.size; clear hxa hga mk2; obtain ⟨mk3, -⟩ : ∃ x : Nat, x = 0 := ⟨0, rfl⟩)
          | (have hh := mk3; clear hh; go_at_call 78; refine (gl_newI _ K T (HS9.out.ext HXa.out) (HT9.out.ext HXa.out) (fun b hb => by omega) (fun b hb => by omega) HKs.out HTs.out (by omega) (by omega) _ q.toNat rfl hm2).mono ?_; rintro r wb ⟨Gb, vb, rfl, hxb, hgb⟩; have HXb := Lib.hid (HXa.out.ext hxb); have HGa2 := Lib.hid (HGa.out.ext hxb); have HGb := Lib.hid hgb; clear hxb hgb mk3; obtain ⟨mk4, -⟩ : ∃ x : Nat, x = 0 := ⟨0, rfl⟩)
          | (have hh := mk4; clear hh; go_at_call 79; have hsc := gl_scan HGa2.out [] [] (Sl.nil byteC _ (fun _ => False)) (Sl.nil byteC _ (fun _ => False)) 1000 false (by decide) (by decide) (by omega); rw [scan_all HGa2.out.srt (by omega)] at hsc; refine hsc.mono ?_; rintro r wc1 ⟨vv, rfl, hxx, hoo⟩; have hss := hoo.sl (G := fun _ => True) (by decide) (by show _ ≤ 140737488355328; omega) (fun _ _ _ => trivial) (fun _ _ _ => trivial); obtain ⟨Awc1, cwc1, rfl, -⟩ := hss.form; have HXc := Lib.hid (HXb.out.ext hxx); have HGb2 := Lib.hid (HGb.out.ext hxx); have HSc := Lib.hid hss; obtain ⟨mk5, -⟩ : ∃ x : Nat, x = 0 := ⟨0, rfl⟩; clear hsc hxx hoo hss mk4)
          | (have hh := mk5; clear hh; go_at_call 79; have hsc := gl_scan HGb2.out [] [] (Sl.nil byteC _ (fun _ => False)) (Sl.nil byteC _ (fun _ => False)) 1000 false (by decide) (by decide) (by omega); rw [scan_all HGb2.out.srt (by omega)] at hsc; refine hsc.mono ?_; rintro r wd1 ⟨vv, rfl, hxx, hoo⟩; have hss := hoo.sl (G := fun _ => True) (by decide) (by show _ ≤ 140737488355328; omega) (fun _ _ _ => trivial) (fun _ _ _ => trivial); obtain ⟨Awd1, cwd1, rfl, -⟩ := hss.form; have HXd := Lib.hid (HXc.out.ext hxx); have HSP := Lib.hid (r4_samePairs wd1 m (HSc.out.ext hxx) hss); clear hsc hxx hoo hss mk5)
          | (go_at_call 68; refine HSP.out.mono ?_; rintro r we ⟨rfl, hxe⟩; have HXe := Lib.hid (HXd.out.ext hxe); clear hxe))
        go_roundw
        case rel => exact ⟨i + 1, by omega, by go_num, HXe.out⟩
        case measure => simp [intOf] <;> omega
      · go_wp2_with (first
          | (go_at_call 64; have hkp := gl_keep wo K T (l3.take k) bottom (HS9.out.ext HX.out) (HT9.out.ext HX.out) (HQ.out.ext (HX9.out.ext HX.out)) (fun b hb => by omega) HKs.out HTs.out (by omega) (by omega) (by rw [List.length_take]; omega); rw [HKK.out, HTK.out] at hkp; refine hkp.mono ?_; rintro r wa ⟨va, ua, rfl, hxa, hsa, hta⟩; obtain ⟨Aa, na, ca, rfl⟩ := hsa.form0; obtain ⟨Ba, ma, da, rfl⟩ := hta.form0; have HXa := Lib.hid (HX.out.ext hxa); have HSA := Lib.hid (r3_sameEq wa K hsa (HS9.out.ext HXa.out)); have HTa := Lib.hid hta; clear hkp hxa hsa hta)
          | (go_at_call 32; refine HSA.out.mono ?_; rintro r wb ⟨rfl, hxb⟩; have HXb := Lib.hid (HXa.out.ext hxb); have HSB := Lib.hid (r9_sameEq wb T (HTa.out.ext hxb) (HT9.out.ext HXb.out)); clear hxb)
          | (go_at_call 66; refine HSB.out.mono ?_; rintro r wc1 ⟨rfl, hxc⟩; have HXc := Lib.hid (HXb.out.ext hxc); clear hxc))
        go_ret
        exact ⟨(by simp), HX9.out.ext HXc.out⟩
end Go.Proofs.Yteaanagljmcidaa
