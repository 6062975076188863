/- law15: GlassBack. -/
import Derived.Test.YteaanagljmcidaaPkJ
namespace Go.Proofs.Yteaanagljmcidaa
open Go.RowKit

attribute [local go_sem ↓] Go.wp_at_zero Go.wp_at_succ

set_option maxRecDepth 100000 in
set_option maxHeartbeats 8000000 in
theorem glassBack_walk (w : World) {F0 F1 F3 F4 : Nat → Prop} {v0 v1 v3 v4 : Value} (l0 : List Ent) (h0 : Sl entCA w F0 v0 l0) (l1 : List SpanE) (h1 : Sl spanCA w F1 v1 l1) (q : UInt64) (l3 : List UInt8) (h3 : BsA w F3 v3 l3) (l4 : List UInt8) (h4 : BsA w F4 v4 l4) :
    Calls Try.prog 20 #[v0, v1, u64V q, v3, v4] w fun e w' => e = .returned (.bool true) ∧ Ext w w' := by
  obtain ⟨A0, n0, c0, rfl⟩ := h0.form0
  obtain ⟨A1, n1, c1, rfl⟩ := h1.form0
  obtain ⟨U3, k3, m3, rfl⟩ := h3.form0
  obtain ⟨U4, k4, m4, rfl⟩ := h4.form0
  have H0 := Lib.hid h0
  have H1 := Lib.hid h1
  have H3 := Lib.hid h3
  have H4 := Lib.hid h4
  clear h0 h1 h3 h4
  obtain ⟨mk1, -⟩ : ∃ x : Nat, x = 0 := ⟨0, rfl⟩
  go_enter Try.func20, Try.ntmps20
  go_wp2_with (first
    | (go_at_call 61; refine (law15_awake _).mono ?_; rintro r w1 ⟨rfl, hx1⟩; have HX1 := Lib.hid hx1; have HA0 := Lib.hid (H0.out.ext hx1); have HB0 := Lib.hid (H1.out.ext hx1); have hz1 := hx1.size; clear hx1)
    | (go_at_call 59; refine (r3_few _ l0 HA0.out 30 (by decide)).mono ?_; rintro r w2 ⟨v2, rfl, hx2, hs2⟩; obtain ⟨A2, n2, c2, rfl⟩ := hs2.form0; have HX2 := Lib.hid (HX1.out.ext hx2); have HS2 := Lib.hid hs2; have HB2 := Lib.hid (HB0.out.ext hx2); have hz2 := hx2.size; clear hx2 hs2)
    | (go_at_call 58; refine (r12_sort _ _ HS2.out (by rw [List.length_map, List.length_take]; omega)).mono ?_; rintro r w3 ⟨v3, rfl, hx3, hs3⟩; obtain ⟨A3, n3, c3, rfl⟩ := hs3.form0; have HX3 := Lib.hid (HX2.out.ext hx3); have hz3 := hx3.size; have HS3 := Lib.hid (hs3.mono (G := fun b => b < w3.heap.size) (fun b _ hl => hl) (.inl (by decide))); have HB3 := Lib.hid (HB2.out.ext hx3); clear hx3 hs3)
    | (go_at_call 63; refine (r9_few _ l1 HB3.out 14 (by decide)).mono ?_; rintro r w4 ⟨v4, rfl, hx4, ho4⟩; have hs4 := ho4.sl (G := fun b => b < w4.heap.size) (by decide) (by show _ ≤ 140737488355328; rw [List.length_map, List.length_take]; omega) (fun b _ hl => hl) (fun b _ hl => hl); obtain ⟨A4, n4, c4, rfl⟩ := hs4.form0; have HX4 := Lib.hid (HX3.out.ext hx4); have hz4 := hx4.size; have HE4 := Lib.hid (HS3.out.ext hx4); have HS4 := Lib.hid hs4; clear hx4 ho4 hs4)
    | (go_at_call 62; refine (r9_right _ _ HS4.out (fun _ h => h) (by rw [List.length_map, List.length_take]; omega)).mono ?_; rintro r w5 ⟨v5, rfl, hx5, hs5⟩; obtain ⟨A5, n5, c5, rfl⟩ := hs5.form0; have HX5 := Lib.hid (HX4.out.ext hx5); have hz5 := hx5.size; have HE5 := Lib.hid ((HE4.out.ext hx5).mono (G := fun b => b < w5.heap.size) (fun b _ hl => hl) (.inl (by decide))); have HT5 := Lib.hid (hs5.mono (G := fun b => b < w5.heap.size) (fun b _ hl => hl) (.inl (by decide))); clear hx5 hs5)
    | (have hh := mk1; clear hh; go_at_call 77; refine (r1_cutI _ (H3.out.ext HX5.out) 80 80 rfl (by decide)).mono ?_; obtain ⟨frm, hfrm⟩ : ∃ t, l3.take 80 = t := ⟨_, rfl⟩; rw [hfrm]; clear hfrm; rintro r w6 ⟨v6, rfl, hx6, hb6⟩; obtain ⟨A6, n6, c6, rfl⟩ := hb6.form0; have HX6 := Lib.hid (HX5.out.ext hx6); have HE6 := Lib.hid (HE5.out.ext hx6); have HT6 := Lib.hid (HT5.out.ext hx6); have HF6 := Lib.hid hb6; have hz6 := hx6.size; clear hx6 hb6 mk1)
    | (go_at_call 77; refine (r1_cutI _ (H4.out.ext HX6.out) 80 80 rfl (by decide)).mono ?_; obtain ⟨til, htil⟩ : ∃ t, l4.take 80 = t := ⟨_, rfl⟩; rw [htil]; clear htil; rintro r w7 ⟨v7, rfl, hx7, hb7⟩; obtain ⟨A7, c7, rfl, -⟩ := hb7.form; have HX7 := Lib.hid (HX6.out.ext hx7); have HE7 := Lib.hid (HE6.out.ext hx7); have HT7 := Lib.hid (HT6.out.ext hx7); have HF7 := Lib.hid (HF6.out.ext hx7); have HL7 := Lib.hid hb7; have hz7 := hx7.size; clear hx7 hb7)
    | (go_at_call 78; refine (gl_newI _ (lawE l0) (lawS l1) HE7.out HT7.out (fun b hb => by omega) (fun b hb => by omega) (lawE_sorted l0) (lawS_ok l1) (by have := lawE_len l0; omega) (by have := lawS_len l1; omega) _ q.toNat rfl rfl).mono ?_; rintro r w8 ⟨G, gv, rfl, hx8, hg8⟩; have HX8 := Lib.hid (HX7.out.ext hx8); have HF8 := Lib.hid (HF7.out.ext hx8); have HL8 := Lib.hid (HL7.out.ext hx8); have hm8 := seenE_length (lawE l0) (lawS l1) q.toNat; have hm9 := lawE_len l0; have HS8 := Lib.hid hg8.srt; have HG8 := Lib.hid hg8; obtain ⟨m, hm⟩ : ∃ m, seenE (lawE l0) (lawS l1) q.toNat = m := ⟨_, rfl⟩; rw [hm] at HS8 HG8 hm8; have hml : m.length ≤ 30 := (by omega); clear hx8 hg8 hm hm8 hm9; obtain ⟨mk2, -⟩ : ∃ x : Nat, x = 0 := ⟨0, rfl⟩)
    | (have hh := mk2; clear hh; go_at_call 79; have hdl := dirP_length m frm til false; have htp := topP_le m til; have Hseg := Lib.hid fun x hx => seg_low (m := m) HS8.out (frm := frm) (til := til) (x := x) hx; have hsc := gl_scan HG8.out frm til HF8.out HL8.out 1000 false (by decide) (by decide) (by omega); rw [scan_long _ _ _ _ (by omega)] at hsc; obtain ⟨D, hD⟩ : ∃ D, dirP m frm til false = D := ⟨_, rfl⟩; rw [hD] at hsc hdl Hseg; have hDl : D.length ≤ 30 := (by omega); have HD := Lib.hid hD; clear hD hdl htp; refine hsc.mono ?_; rintro r w9 ⟨v9, rfl, hx9, ho9⟩; have HX9 := Lib.hid (HX8.out.ext hx9); have HG9 := Lib.hid (HG8.out.ext hx9); have HF9 := Lib.hid (HF8.out.ext hx9); have HL9 := Lib.hid (HL8.out.ext hx9); have hs9 := ho9.sl (G := fun _ => True) (by decide) (by show _ ≤ 140737488355328; omega) (fun _ _ _ => trivial) (fun _ _ _ => trivial); obtain ⟨A9, c9, rfl, hc9, -⟩ := hs9.form; have HS9 := Lib.hid hs9; clear hsc hx9 ho9 hs9 mk2)
    | (go_at_call 79; have hsc := gl_scan HG9.out frm til HF9.out HL9.out 1000 true (by decide) (by decide) (by omega); rw [scan_long _ _ _ _ (by omega), dirP_back, HD.out] at hsc; refine hsc.mono ?_; rintro r wa ⟨va, rfl, hxa, hoa⟩; have HXa := Lib.hid (HX9.out.ext hxa); have HSa := Lib.hid (HS9.out.ext hxa); have HFa := Lib.hid (HF9.out.ext hxa); have HLa := Lib.hid (HL9.out.ext hxa); have hsb := hoa.sl (G := fun _ => True) (by decide) (by show _ ≤ 140737488355328; rw [List.length_reverse]; omega) (fun _ _ _ => trivial) (fun _ _ _ => trivial); obtain ⟨Ab, cb, hvb, hcb, -⟩ := hsb.form; rw [List.length_reverse] at hvb hcb; subst hvb; have HSb := Lib.hid hsb; clear hsc hxa hoa hsb))
  go_loopw [52] (fun s52 wr => ∃ i : Nat, i ≤ D.length ∧ s52 = .int .i64 i ∧ Ext wa wr) (fun s52 _ => D.length - (intOf s52).toNat)
  case atStart => exact ⟨0, Nat.zero_le _, rfl, Out.refl _ _⟩
  case round =>
    obtain ⟨wo, rfl⟩ : ∃ x : World, x = wr := ⟨_, rfl⟩
    obtain ⟨i, hi, rfl, hx⟩ := hrel
    have HX := Lib.hid hx
    clear hx
    by_cases hlt : i < D.length
    · obtain ⟨b1, o1, u1, v1, rfl, -, d0, d1, hu, hv⟩ := (HSa.out.ext HX.out).pair i hlt
      have hP1 := (HSa.out.ext HX.out).pair_of2 i hlt
      obtain ⟨j, hj⟩ : ∃ j, j = D.length - 1 - i := ⟨_, rfl⟩
      have hjl : j < D.reverse.length := by rw [List.length_reverse]; omega
      have hP2 := (HSb.out.ext HX.out).pair_of j hjl
      have hrev : D.reverse[j] = D[i] := by
        rw [List.getElem_reverse]
        congr 1
        omega
      rw [hrev] at hP2
      clear hrev hjl
      have hj2 : D.length = i + j + 1 := by omega
      have hw1 : IntKind.i64.wrap ((i : Int) + 1) = (i : Int) + 1 := by rw [IntKind.wrap_i64]; omega
      have hw2 : IntKind.i64.wrap ((D.length : Int) - 1) = (D.length : Int) - 1 := by rw [IntKind.wrap_i64]; omega
      have hw3 : IntKind.i64.wrap ((D.length : Int) - 1 - (i : Int)) = (j : Int) := by rw [IntKind.wrap_i64]; omega
      have hw4 : IntKind.i64.wrap ((D.length : Int) - (i : Int)) = (j : Int) + 1 := by rw [IntKind.wrap_i64]; omega
      have hi0 : (0 : Int) ≤ (i : Int) := by omega
      have hi1 : (i : Int) + 1 ≤ (c9 : Int) := by omega
      have hi2 : (i : Int) ≤ (i : Int) + 1 := by omega
      have hi3 : (0 : Int) ≤ (j : Int) := by omega
      have hi4 : (j : Int) + 1 ≤ (cb : Int) := by omega
      have hi5 : (j : Int) ≤ (j : Int) + 1 := by omega
      have hi6 : (i : Int) < (D.length : Int) := by omega
      have HSP := Lib.hid (r4_samePairs wo.drew [D[i]] hP1.drew hP2.drew)
      have Hsg := Lib.hid (Hseg.out D[i] (List.getElem_mem hlt))
      obtain ⟨U1, N1, n1, rfl⟩ := hu.form0
      have Hu := Lib.hid hu
      have HF := Lib.hid (HFa.out.ext HX.out)
      have HL := Lib.hid (HLa.out.ext HX.out)
      generalize D[i] = p at *
      clear hP1 hP2 hu hv hj hj2
      go_wp2
      refine region_B 99 (fun _ => True) (by kernel_rfl) ?q20_14S (fun hHeld0 => ?_)
      case q20_14S => (trivial)
      refine anyB_take (i := 0) (oi := _) (v := ?q20_14v1) rfl (by kernel_rfl) (by kernel_rfl) (by kernel_rfl) (by kernel_rfl) (fun _ _ _ h => h) (Or.inl ⟨by rfl, ?q20_14h1⟩) (by assumption) ?q20_14r1
      case q20_14h1 => (intro w hSw; (try dsimp only at hSw); go_simp; try with_reducible rfl)
      (try simp only [List.getElem_toArray, List.getElem_cons_zero, Act.put, List.setIfInBounds_toArray, List.set_cons_zero, List.set_cons_succ])
      refine anyB_take (i := 1) (oi := _) (v := ?q20_14v2) rfl (by kernel_rfl) (by kernel_rfl) (by kernel_rfl) (by kernel_rfl) (fun _ _ _ h => h) (Or.inl ⟨by rfl, ?q20_14h2⟩) (by assumption) ?q20_14r2
      case q20_14h2 => (intro w hSw; (try dsimp only at hSw); go_simp; try with_reducible rfl)
      (try simp only [List.getElem_toArray, List.getElem_cons_succ, List.getElem_cons_zero, Act.put, List.setIfInBounds_toArray, List.set_cons_zero, List.set_cons_succ])
      refine anyB_take (i := 2) (oi := _) (v := ?q20_14v3) rfl (by kernel_rfl) (by kernel_rfl) (by kernel_rfl) (by kernel_rfl) (fun _ _ _ h => h) (Or.inl ⟨by rfl, ?q20_14h3⟩) (by assumption) ?q20_14r3
      case q20_14h3 => (intro w hSw; (try dsimp only at hSw); go_simp; try with_reducible rfl)
      (try simp only [List.getElem_toArray, List.getElem_cons_succ, List.getElem_cons_zero, Act.put, List.setIfInBounds_toArray, List.set_cons_zero, List.set_cons_succ])
      refine anyB_take (i := 3) (oi := _) (v := ?q20_14v4) rfl (by kernel_rfl) (by kernel_rfl) (by kernel_rfl) (by kernel_rfl) (fun _ _ _ h => h) (Or.inl ⟨by rfl, ?q20_14h4⟩) (by assumption) ?q20_14r4
      case q20_14h4 => (intro w hSw; (try dsimp only at hSw); go_simp; try with_reducible rfl)
      (try simp only [List.getElem_toArray, List.getElem_cons_succ, List.getElem_cons_zero, Act.put, List.setIfInBounds_toArray, List.set_cons_zero, List.set_cons_succ])
      refine anyB_take (i := 4) (oi := _) (v := ?q20_14v5) rfl (by kernel_rfl) (by kernel_rfl) (by kernel_rfl) (by kernel_rfl) (fun _ _ _ h => h) (Or.inl ⟨by rfl, ?q20_14h5⟩) (by assumption) ?q20_14r5
      case q20_14h5 => (intro w hSw; (try dsimp only at hSw); go_simp; try with_reducible rfl)
      (try simp only [List.getElem_toArray, List.getElem_cons_succ, List.getElem_cons_zero, Act.put, List.setIfInBounds_toArray, List.set_cons_zero, List.set_cons_succ])
      refine anyB_take (i := 5) (oi := _) (v := ?q20_14v6) rfl (by kernel_rfl) (by kernel_rfl) (by kernel_rfl) (by kernel_rfl) (fun _ _ _ h => h) (Or.inl ⟨by rfl, ?q20_14h6⟩) (by assumption) ?q20_14r6
      case q20_14h6 => (intro w hSw; (try dsimp only at hSw); go_simp; try with_reducible rfl)
      (try simp only [List.getElem_toArray, List.getElem_cons_succ, List.getElem_cons_zero, Act.put, List.setIfInBounds_toArray, List.set_cons_zero, List.set_cons_succ])
      refine anyB_take (i := 6) (oi := _) (v := ?q20_14v7) rfl (by kernel_rfl) (by kernel_rfl) (by kernel_rfl) (by kernel_rfl) (fun _ _ _ h => h) (Or.inl ⟨by rfl, ?q20_14h7⟩) (by assumption) ?q20_14r7
      case q20_14h7 => (intro w hSw; (try dsimp only at hSw); go_simp; try with_reducible rfl)
      (try simp only [List.getElem_toArray, List.getElem_cons_succ, List.getElem_cons_zero, Act.put, List.setIfInBounds_toArray, List.set_cons_zero, List.set_cons_succ])
      refine anyB_take (i := 7) (oi := _) (v := ?q20_14v8) rfl (by kernel_rfl) (by kernel_rfl) (by kernel_rfl) (by kernel_rfl) (fun _ _ _ h => h) (Or.inl ⟨by rfl, ?q20_14h8⟩) (by assumption) ?q20_14r8
      case q20_14h8 => (intro w hSw; (try dsimp only at hSw); go_simp; try with_reducible rfl)
      (try simp only [List.getElem_toArray, List.getElem_cons_succ, List.getElem_cons_zero, Act.put, List.setIfInBounds_toArray, List.set_cons_zero, List.set_cons_succ])
      refine anyB_take (i := 8) (oi := _) (v := ?q20_14v9) rfl (by kernel_rfl) (by kernel_rfl) (by kernel_rfl) (by kernel_rfl) (fun _ _ _ h => h) (Or.inl ⟨by rfl, ?q20_14h9⟩) (by assumption) ?q20_14r9
      case q20_14h9 => (intro w hSw; (try dsimp only at hSw); go_simp; try with_reducible rfl)
      (try simp only [List.getElem_toArray, List.getElem_cons_succ, List.getElem_cons_zero, Act.put, List.setIfInBounds_toArray, List.set_cons_zero, List.set_cons_succ])
      refine anyB_take (i := 9) (oi := _) (v := ?q20_14v10) rfl (by kernel_rfl) (by kernel_rfl) (by kernel_rfl) (by kernel_rfl) (fun _ _ _ h => h) (Or.inl ⟨by rfl, ?q20_14h10⟩) (by assumption) ?q20_14r10
      case q20_14h10 => (intro w hSw; (try dsimp only at hSw); go_simp; try with_reducible rfl)
      (try simp only [List.getElem_toArray, List.getElem_cons_succ, List.getElem_cons_zero, Act.put, List.setIfInBounds_toArray, List.set_cons_zero, List.set_cons_succ])
      refine anyB_take (i := 10) (oi := _) (v := ?q20_14v11) rfl (by kernel_rfl) (by kernel_rfl) (by kernel_rfl) (by kernel_rfl) (fun _ _ _ h => h) (Or.inl ⟨by rfl, ?q20_14h11⟩) (by assumption) ?q20_14r11
      case q20_14h11 => (intro w hSw; (try dsimp only at hSw); go_simp; try with_reducible rfl)
      (try simp only [List.getElem_toArray, List.getElem_cons_succ, List.getElem_cons_zero, Act.put, List.setIfInBounds_toArray, List.set_cons_zero, List.set_cons_succ])
      refine anyB_take (i := 11) (oi := _) (v := ?q20_14v12) rfl (by kernel_rfl) (by kernel_rfl) (by kernel_rfl) (by kernel_rfl) (fun _ _ _ h => h) (Or.inl ⟨by rfl, ?q20_14h12⟩) (by assumption) ?q20_14r12
      case q20_14h12 => (intro w hSw; (try dsimp only at hSw); go_simp; try with_reducible rfl)
      (try simp only [List.getElem_toArray, List.getElem_cons_succ, List.getElem_cons_zero, Act.put, List.setIfInBounds_toArray, List.set_cons_zero, List.set_cons_succ])
      refine anyB_take (i := 12) (oi := _) (v := ?q20_14v13) rfl (by kernel_rfl) (by kernel_rfl) (by kernel_rfl) (by kernel_rfl) (fun _ _ _ h => h) (Or.inl ⟨by rfl, ?q20_14h13⟩) (by assumption) ?q20_14r13
      case q20_14h13 => (intro w hSw; (try dsimp only at hSw); go_simp; try with_reducible rfl)
      (try simp only [List.getElem_toArray, List.getElem_cons_succ, List.getElem_cons_zero, Act.put, List.setIfInBounds_toArray, List.set_cons_zero, List.set_cons_succ])
      refine anyB_take (i := 13) (oi := _) (v := ?q20_14v14) rfl (by kernel_rfl) (by kernel_rfl) (by kernel_rfl) (by kernel_rfl) (fun _ _ _ h => h) (Or.inl ⟨by rfl, ?q20_14h14⟩) (by assumption) ?q20_14r14
      case q20_14h14 => (intro w hSw; (try dsimp only at hSw); go_simp; try with_reducible rfl)
      (try simp only [List.getElem_toArray, List.getElem_cons_succ, List.getElem_cons_zero, Act.put, List.setIfInBounds_toArray, List.set_cons_zero, List.set_cons_succ])
      refine anyB_take (i := 14) (oi := _) (v := ?q20_14v15) rfl (by kernel_rfl) (by kernel_rfl) (by kernel_rfl) (by kernel_rfl) (fun _ _ _ h => h) (Or.inl ⟨by rfl, ?q20_14h15⟩) (by assumption) ?q20_14r15
      case q20_14h15 => (intro w hSw; (try dsimp only at hSw); go_simp; try with_reducible rfl)
      (try simp only [List.getElem_toArray, List.getElem_cons_succ, List.getElem_cons_zero, Act.put, List.setIfInBounds_toArray, List.set_cons_zero, List.set_cons_succ])
      refine anyB_take (i := 15) (oi := _) (v := ?q20_14v16) rfl (by kernel_rfl) (by kernel_rfl) (by kernel_rfl) (by kernel_rfl) (fun _ _ _ h => h) (Or.inl ⟨by rfl, ?q20_14h16⟩) (by assumption) ?q20_14r16
      case q20_14h16 => (intro w hSw; (try dsimp only at hSw); go_simp; try with_reducible rfl)
      (try simp only [List.getElem_toArray, List.getElem_cons_succ, List.getElem_cons_zero, Act.put, List.setIfInBounds_toArray, List.set_cons_zero, List.set_cons_succ])
      refine anyB_step (i := 16) (o := _) (by kernel_rfl) (by rfl) (by (simp only [List.getElem?_toArray, List.getElem?_cons_succ, List.getElem?_cons_zero] <;> rfl)) (fun K hK => ?_)
      go_simp; go_at_call 68; refine HSP.out.mono ?_; rintro r w2 ⟨rfl, hx2⟩; have e0 := hx2.cell (show (World.drew _).cell? _ = _ from d0) (fun f => f); have HX2 := Lib.hid ((HX.out.drew).ext hx2); have Hu2 := Lib.hid (Hu.out.drew.ext hx2); have HF2 := Lib.hid (HF.out.drew.ext hx2); have HL2 := Lib.hid (HL.out.drew.ext hx2); clear hx2
      (try dsimp only)
      refine hK.out _ _ ?q20_14S17 (fun hHeld1 => ?_)
      case q20_14S17 => (trivial)
      clear hK K hHeld0
      (try simp only [List.getElem_toArray, List.getElem_cons_succ, List.getElem_cons_zero, Act.put, List.setIfInBounds_toArray, List.set_cons_zero, List.set_cons_succ])
      refine anyB_take (i := 17) (oi := _) (v := ?q20_14v18) rfl (by kernel_rfl) (by kernel_rfl) (by kernel_rfl) (by kernel_rfl) (fun _ _ _ h => h) (Or.inl ⟨by rfl, ?q20_14h18⟩) (by assumption) ?q20_14r18
      case q20_14h18 => (intro w hSw; (try dsimp only at hSw); go_simp; try with_reducible rfl)
      (try simp only [List.getElem_toArray, List.getElem_cons_succ, List.getElem_cons_zero, Act.put, List.setIfInBounds_toArray, List.set_cons_zero, List.set_cons_succ])
      refine anyB_done (by kernel_rfl) ?_ _
      have HL1 := Lib.hid (r1_less w2 Hu2.out HF2.out)
      rw [Hsg.out.1] at HL1
      by_cases ht : til.length = 0
      · have ht1 : ¬ (0 : Int) < (til.length : Int) := by omega
        have ht2 : ¬ 0 < til.length := by omega
        clear ht
        go_wp2_with (go_at_call 82; refine HL1.out.mono ?_; rintro r w3 ⟨rfl, rfl⟩)
        go_roundw
        case rel => exact ⟨i + 1, by omega, by go_num, HX2.out⟩
        case measure => simp [intOf] <;> omega
      · have HLb := Lib.hid (r1_less w2 Hu2.out HL2.out)
        rw [Hsg.out.2 ht] at HLb
        have ht1 : (0 : Int) < (til.length : Int) := by omega
        have ht2 : 0 < til.length := by omega
        clear ht
        obtain ⟨mk3, -⟩ : ∃ x : Nat, x = 0 := ⟨0, rfl⟩
        go_wp2_with (first | (have hh := mk3; clear hh; go_at_call 82; refine HL1.out.mono ?_; rintro r w3 ⟨rfl, rfl⟩; clear mk3) | (go_at_call 82; refine HLb.out.mono ?_; rintro r w3 ⟨rfl, rfl⟩))
        go_roundw
        case rel => exact ⟨i + 1, by omega, by go_num, HX2.out⟩
        case measure => simp [intOf] <;> omega
    · go_wp2
      go_ret
      exact ⟨rfl, HXa.out.ext HX.out⟩
end Go.Proofs.Yteaanagljmcidaa
